/- A statement whose operations may come in several orders, on abstract values and blocks, and that the model's does the same in each of them; no condition. -/
import Derived.Test.YtojdhmkjegkfkaaAb12
namespace Go.Ab
open Go.RowKit

/-- what an operation was: one that acts, one that was passed by, one that only looks, one that made a block -/
inductive Kind where
  | eff
  | skip
  | quiet
  | made (B : Blk) (id : Nat)
structure Past where
  i : Nat
  v : Value
  k : Kind
def dstOf (ops : Array Oper) (i : Nat) : Option Tmp := (ops[i]?).bind (·.dst)
/-- the frame behind so many operations, the last one first -/
def FS (n : Nat) (ops : Array Oper) (fr : Fr) : List Past → Fr
  | [] => fr
  | p :: S => putF n (FS n ops fr S) (dstOf ops p.i) p.v
def isEff : Op → Bool
  | .store .. | .mapUpdate .. | .insert .. | .range .. | .next .. => true
  | .call ⟨.builtin b, _, _⟩ => b == .append || b == .copy || b == .clear || b == .delete
  | .call _ => true
  | _ => false
/-- an operation of the past would do the same now -/
def stillP (P : Program) (n : Nat) (ops : Array Oper) (fr : Fr) (h : Hp) (S : List Past) (p : Past) : Prop :=
  match p.k with
  | .eff | .skip => True
  | .quiet => ∃ o, ops[p.i]? = some o ∧ opA P (evalA (FS n ops fr S)) o.op h = some (.val p.v h)
  | .made B id => h[id]? = some B
def stillAll (P : Program) (n : Nat) (ops : Array Oper) (fr : Fr) (A : List Nat) (h : Hp) : List Past → Prop
  | [] => True
  | p :: S => (A.contains p.i = true ∨ stillP P n ops fr h S p) ∧ stillAll P n ops fr A h S
def preds (ops : Array Oper) (i : Nat) : List Nat := ((ops[i]?).map fun o => (o.after.toList.filter fun e => Region.binds .any e).map (·.on)).getD []
def ancs (ops : Array Oper) : Nat → Nat → List Nat
  | 0, _ => []
  | k + 1, i => (preds ops i).flatMap fun j => j :: ancs ops k j
/-- the operations in one order -/
def Can (P : Program) (n : Nat) (ops : Array Oper) (fr : Fr) (K : Fr → Hp → Prop) : List Nat → List Past → Hp → Prop
  | [], done, h => K (FS n ops fr done) h
  | i :: rem, done, h =>
    match ops[i]? with
    | none => False
    | some o =>
      match wantA ops o (FS n ops fr done) with
      | none => False
      | some t =>
        (t = false → Can P n ops fr K rem (⟨i, sk, .skip⟩ :: done) h) ∧
        (t = true →
          if isEff o.op = true then
            match opA P (evalA (FS n ops fr done)) o.op h with
            | none => False
            | some (.val v h') => stillAll P n ops fr (ancs ops ops.size i) h' done ∧ Can P n ops fr K rem (⟨i, v, .eff⟩ :: done) h'
            | some (.enter f args) => EvA P f args (fun r h' => stillAll P n ops fr (ancs ops ops.size i) h' done ∧ Can P n ops fr K rem (⟨i, r, .eff⟩ :: done) h') h
            | some (.round b args) => RoundA P b args (fun r h' => stillAll P n ops fr (ancs ops ops.size i) h' done ∧ Can P n ops fr K rem (⟨i, r, .eff⟩ :: done) h') h
          else
            match newA P (evalA (FS n ops fr done)) o.op with
            | some (B, f) => stillAll P n ops fr [] (h ++ [B]) done ∧ Can P n ops fr K rem (⟨i, f h.length, .made B h.length⟩ :: done) (h ++ [B])
            | none =>
              match opA P (evalA (FS n ops fr done)) o.op h with
              | some (.val v h') => h' = h ∧ Can P n ops fr K rem (⟨i, v, .quiet⟩ :: done) h
              | _ => False)

/-! ### the order -/
def looks (ops : Array Oper) (i : Nat) : List Tmp :=
  match ops[i]? with
  | none => []
  | some o => (o.op.operands.toList.filterMap fun x => match x with | .tmp t => some t | _ => none) ++ (match o.guard with | some (j, _) => (dstOf ops j).toList | none => [])
/-- each operation comes behind those on which it waits; behind one that acts come only those that wait for it, or for such; what one looks at is written ahead of it, or behind it, in any order -/
def planOk (n : Nat) (ops : Array Oper) (c : List Nat) : Bool :=
  c.length == ops.size && decide c.Nodup && c.all (fun i => decide (i < ops.size)) && (List.range ops.size).all (fun i => c.contains i) &&
  c.all (fun i => (preds ops i).all fun j => c.idxOf j < c.idxOf i) &&
  c.all (fun e => !(((ops[e]?).map fun o => isEff o.op).getD false) || c.all fun j => c.idxOf j ≤ c.idxOf e || (preds ops j).any fun k => c.idxOf e ≤ c.idxOf k) &&
  (List.range ops.size).all (fun i => (dstOf ops i).all fun d => d < n) &&
  (List.range ops.size).all (fun i => (List.range ops.size).all fun j => i == j || (dstOf ops i).isNone || dstOf ops i != dstOf ops j) &&
  (List.range ops.size).all (fun i => (looks ops i).all fun t => (List.range ops.size).all fun j => dstOf ops j != some t || (c.idxOf j < c.idxOf i && (ancs ops ops.size i).contains j) || (c.idxOf i < c.idxOf j && (ancs ops ops.size j).contains i))

section
variable {P : Program} {n : Nat} {ops : Array Oper} {fr : Fr}

/-- what the check says -/
structure Plan (n : Nat) (ops : Array Oper) (c : List Nat) : Prop where
  len : c.length = ops.size
  nodup : c.Nodup
  lt : ∀ i ∈ c, i < ops.size
  all : ∀ i, i < ops.size → i ∈ c
  pred : ∀ i ∈ c, ∀ j ∈ preds ops i, c.idxOf j < c.idxOf i
  eager : ∀ e ∈ c, ∀ o, ops[e]? = some o → isEff o.op = true → ∀ j ∈ c, c.idxOf j ≤ c.idxOf e ∨ ∃ k ∈ preds ops j, c.idxOf e ≤ c.idxOf k
  dst : ∀ i, i < ops.size → ∀ d, dstOf ops i = some d → d < n
  dsts : ∀ i, i < ops.size → ∀ j, j < ops.size → i ≠ j → ∀ d, dstOf ops i = some d → dstOf ops j ≠ some d
  look : ∀ i, i < ops.size → ∀ t ∈ looks ops i, ∀ j, j < ops.size → dstOf ops j = some t → (c.idxOf j < c.idxOf i ∧ j ∈ ancs ops ops.size i) ∨ (c.idxOf i < c.idxOf j ∧ i ∈ ancs ops ops.size j)
theorem planOk_spec {c : List Nat} (h : planOk n ops c = true) : Plan n ops c := by
  simp only [planOk, Bool.and_eq_true, List.all_eq_true, beq_iff_eq, List.mem_range, Bool.or_eq_true, Bool.not_eq_true', decide_eq_true_eq, List.contains_iff_mem, List.any_eq_true, bne_iff_ne, Option.isNone_iff_eq_none, ne_eq] at h
  obtain ⟨⟨⟨⟨⟨⟨⟨⟨h1, h0⟩, h8⟩, h2⟩, h3⟩, h4⟩, h5⟩, h6⟩, h7⟩ := h
  refine ⟨h1, h0, h8, h2, h3, ?_, ?_, ?_, ?_⟩
  · intro e he o ho heff j hj
    rcases h4 e he with hn | hn
    · simp [ho, heff] at hn
    · rcases hn j hj with h' | ⟨k, hk, hk'⟩
      · exact .inl h'
      · exact .inr ⟨k, hk, hk'⟩
  · intro i hi d hd
    have := h5 i hi
    rw [hd] at this
    simpa using this
  · intro i hi j hj hij d hd hjd
    rcases h6 i hi j hj with (h' | h') | h'
    · exact hij h'
    · rw [hd] at h'; simp at h'
    · exact h' (hd.trans hjd.symm)
  · intro i hi t ht j hj hjt
    rcases h7 i hi t ht j hj with (h' | h') | h'
    · exact absurd hjt h'
    · exact .inl h'
    · exact .inr h'

/-! ### frames -/
theorem FS_none {S : List Past} {t : Tmp} (h : ∀ p ∈ S, dstOf ops p.i ≠ some t) : FS n ops fr S t = fr t := by
  induction S with
  | nil => rfl
  | cons p S ih =>
    have hp := h p (by simp)
    simp only [FS]
    cases hd : dstOf ops p.i with
    | none => exact ih (fun q hq => h q (by simp [hq]))
    | some d =>
      rw [putF_some, if_neg (fun e => hp (by rw [hd, e]))]
      exact ih (fun q hq => h q (by simp [hq]))
theorem FS_some {S : List Past} {t : Tmp} {p : Past} (hp : p ∈ S) (hd : dstOf ops p.i = some t) (hn : t < n) (hone : ∀ q ∈ S, dstOf ops q.i = some t → q = p) : FS n ops fr S t = p.v := by
  induction S with
  | nil => simp at hp
  | cons q S ih =>
    simp only [FS]
    by_cases hq : dstOf ops q.i = some t
    · have := hone q (by simp) hq
      subst this
      rw [hq, putF_some, if_pos rfl, if_pos hn]
    · have hpS : p ∈ S := by
        rcases List.mem_cons.1 hp with rfl | h'
        · exact absurd hd hq
        · exact h'
      have := ih hpS (fun r hr => hone r (by simp [hr]))
      cases hdq : dstOf ops q.i with
      | none => exact this
      | some d =>
        rw [putF_some, if_neg (fun e => hq (by rw [hdq, e]))]
        exact this

theorem idx_lt {X Y : List Nat} {p j : Nat} (hn : (X ++ p :: Y).Nodup) : j ∈ X ↔ (X ++ p :: Y).idxOf j < (X ++ p :: Y).idxOf p := by
  have hp : p ∉ X := by
    intro hp
    rw [List.nodup_append] at hn
    exact hn.2.2 p hp p (by simp) rfl
  have h1 : (X ++ p :: Y).idxOf p = X.length := by
    rw [List.idxOf_append, if_neg hp]; simp
  rw [h1]
  constructor
  · intro hj
    rw [List.idxOf_append, if_pos hj]
    exact List.idxOf_lt_length_of_mem hj
  · intro h
    rw [List.idxOf_append] at h
    split at h
    · assumption
    · omega

theorem opA_congr {ρ ρ' : Operand → Value} {o : Op} (hr : ∀ x ∈ o.operands, ρ x = ρ' x) (h : Hp) : opA P ρ o h = opA P ρ' o h := by
  have hmap : ∀ (xs : Array Operand), (∀ x ∈ xs, ρ x = ρ' x) → xs.toList.map ρ = xs.toList.map ρ' := fun xs hx => List.map_congr_left fun x hx' => hx x (Array.mem_toList_iff.1 hx')
  have hmap' : ∀ (xs : Array Operand), (∀ x ∈ xs, ρ x = ρ' x) → xs.map ρ = xs.map ρ' := fun xs hx => Array.map_congr_left hx
  have hopt : ∀ (x : Option Operand), (∀ y ∈ x.toArray, ρ y = ρ' y) → x.map ρ = x.map ρ' := by
    intro x hx
    cases x with
    | none => rfl
    | some y => simp [hx y (by simp)]
  have hprt : ∀ (ps : Array (Nat × Operand)), (∀ x ∈ (ps.toList.map (·.2)).toArray, ρ x = ρ' x) → ps.toList.map (fun p => (p.1, ρ p.2)) = ps.toList.map (fun p => (p.1, ρ' p.2)) := by
    intro ps hx
    refine List.map_congr_left fun p hp => ?_
    rw [hx p.2 (by simp; exact ⟨p.1, by simpa using hp⟩)]
  cases o <;> simp only [Op.operands] at hr <;> try rfl
  case move x => simp [hr x (by simp)]
  case assign x => simp [hr x (by simp)]
  case pick c a b => simp [hr c (by simp), hr a (by simp), hr b (by simp)]
  case box t x => simp [hr x (by simp)]
  case build t ps => rw [opA_build, opA_build, hprt ps hr]
  case buildSlice t k ps => rw [opA_buildSlice, opA_buildSlice, hprt ps hr]
  case insert t m k x => simp [hr m (by simp), hr k (by simp), hr x (by simp)]
  case load t a => simp [hr a (by simp)]
  case store t a x => simp [hr a (by simp), hr x (by simp)]
  case nilCheck x => simp [hr x (by simp)]
  case binOp op t x y u => simp [hr x (by simp), hr y (by simp)]
  case unOp op t x => simp [hr x (by simp)]
  case convert s d x => simp [hr x (by simp)]
  case makeInterface t x => simp [hr x (by simp)]
  case makeFunc f a c =>
    cases f <;> try rfl
    rw [opA_makeFunc, opA_makeFunc, hmap' a (fun x hx => hr x (by simp [hx])), hmap' c (fun x hx => hr x (by simp [hx]))]
  case makeMap t r => cases r <;> rfl
  case makeSlice t l c => simp [hr l (by simp), hr c (by simp)]
  case slice t x lo hi mx =>
    rw [opA_slice, opA_slice, hr x (by simp), hopt lo (fun y hy => hr y (by simp [hy])), hopt hi (fun y hy => hr y (by simp [hy])), hopt mx (fun y hy => hr y (by simp [hy]))]
  case fieldAddr t x f => simp [hr x (by simp)]
  case field t x f => simp [hr x (by simp)]
  case indexAddr t x i => simp [hr x (by simp), hr i (by simp)]
  case index t x i => simp [hr x (by simp), hr i (by simp)]
  case lookup t m k ok => simp [hr m (by simp), hr k (by simp)]
  case mapUpdate t m k x => simp [hr m (by simp), hr k (by simp), hr x (by simp)]
  case range t x => simp [hr x (by simp)]
  case next it s => simp [hr it (by simp)]
  case extract t i => simp [hr t (by simp)]
  case typeAssert x u t ok => simp [hr x (by simp)]
  case call c =>
    obtain ⟨callee, args, ts⟩ := c
    cases callee with
    | value f =>
      rw [opA_call, opA_call, hr f (by simp [Call.operands]), hmap args (fun x hx => hr x (by simp [Call.operands, hx]))]
    | builtin b => rw [opA_builtin, opA_builtin, hmap args (fun x hx => hr x (by simp [Call.operands, hx]))]
    | invoke r m => rfl
theorem newA_congr {ρ ρ' : Operand → Value} {o : Op} (hr : ∀ x ∈ o.operands, ρ x = ρ' x) : newA P ρ o = newA P ρ' o := by
  have hprt : ∀ (ps : Array (Nat × Operand)), (∀ x ∈ (ps.toList.map (·.2)).toArray, ρ x = ρ' x) → ps.toList.map (fun p => (p.1, ρ p.2)) = ps.toList.map (fun p => (p.1, ρ' p.2)) := by
    intro ps hx
    refine List.map_congr_left fun p hp => ?_
    rw [hx p.2 (by simp; exact ⟨p.1, by simpa using hp⟩)]
  cases o <;> simp only [Op.operands] at hr <;> try rfl
  case box t x => simp only [newA, hr x (by simp)]
  case buildSlice t k ps => simp only [newA, hprt ps hr]
  case convert s d x => simp only [newA, hr x (by simp)]
  case makeMap t r => cases r <;> rfl
  case makeSlice t l c => simp only [newA, hr l (by simp), hr c (by simp)]
theorem evalA_congr {f g : Fr} {o : Oper} {i : Nat} (ho : ops[i]? = some o) (h : ∀ t ∈ looks ops i, f t = g t) : ∀ x ∈ o.op.operands, evalA f x = evalA g x := by
  intro x hx
  cases x with
  | tmp t =>
    refine h t ?_
    simp only [looks, ho]
    refine List.mem_append_left _ (List.mem_filterMap.2 ⟨.tmp t, Array.mem_toList_iff.2 hx, rfl⟩)
  | _ => rfl
theorem wantA_congr {f g : Fr} {o : Oper} {i : Nat} (ho : ops[i]? = some o) (h : ∀ t ∈ looks ops i, f t = g t) : wantA ops o f = wantA ops o g := by
  unfold wantA
  split
  · rfl
  · rename_i j want hg
    split
    · rfl
    · rename_i d hd
      have : f d = g d := by
        refine h d ?_
        simp only [looks, ho, hg, dstOf, hd]
        simp
      rw [this]
end
end Go.Ab
