/- What an operation does to abstract values, and that the model's operation does the same: numbers, texts, addresses, structs, slices; no condition. -/
import Derived.Test.YtojdhmkjegkfkaaAb1
import Derived.Laws.StructEq
namespace Go.Ab
open Go.RowKit
section
variable {P : Program} {μ : Emb} {h : Hp} {w : World}

/-! ### numbers, texts, truth values -/
def intA (op : BinOp) (k : IntKind) (a b : Int) : Option Value :=
  match op with
  | .add => some (.int k (k.wrap (a + b)))
  | .sub => some (.int k (k.wrap (a - b)))
  | .mul => some (.int k (k.wrap (a * b)))
  | .quo => if b = 0 then none else some (.int k (k.wrap (a.tdiv b)))
  | .rem => if b = 0 then none else some (.int k (a.tmod b))
  | .and => some (.int k (k.wrap (BitVec.ofInt k.bits a &&& BitVec.ofInt k.bits b).toNat))
  | .or => some (.int k (k.wrap (BitVec.ofInt k.bits a ||| BitVec.ofInt k.bits b).toNat))
  | .xor => some (.int k (k.wrap (BitVec.ofInt k.bits a ^^^ BitVec.ofInt k.bits b).toNat))
  | .andNot => some (.int k (k.wrap (BitVec.ofInt k.bits a &&& ~~~BitVec.ofInt k.bits b).toNat))
  | .eql => some (.bool (a == b))
  | .neq => some (.bool (a != b))
  | .lss => some (.bool (decide (a < b)))
  | .leq => some (.bool (decide (a ≤ b)))
  | .gtr => some (.bool (decide (a > b)))
  | .geq => some (.bool (decide (a ≥ b)))
  | _ => none
def strA (op : BinOp) (x y : ByteArray) : Option Value :=
  match op with
  | .add => if x.size + y.size ≤ 9223372036854775807 then some (.string (x ++ y)) else none
  | .eql => some (.bool (x.toList == y.toList))
  | .neq => some (.bool (!(x.toList == y.toList)))
  | .lss => some (.bool (Op.bytesLess x.toList y.toList))
  | .leq => some (.bool (Op.bytesLess x.toList y.toList || (x.toList == y.toList)))
  | .gtr => some (.bool (!(Op.bytesLess x.toList y.toList || (x.toList == y.toList))))
  | .geq => some (.bool (!(Op.bytesLess x.toList y.toList)))
  | _ => none

/-- the cell of a struct -/
def partA (P : Program) (t : TypeId) (cs : List Value) (o : Nat) : Option Value :=
  match aggT P t with
  | some true => match sizeT P t with
    | some n => if o + n ≤ cs.length then some (.agg ((cs.drop o).take n).toArray) else none
    | none => none
  | some false => cs[o]?
  | none => none
theorem partA_ok {t : TypeId} {cs : Array Value} {cs' : Array Value} {o : Nat} {v : Value} (hc : ARel μ cs cs') (hA : partA P t cs.toList o = some v) (w : World) :
    ∃ v', (part t cs' o).run P w = .ok v' w ∧ VRel μ v v' := by
  unfold partA at hA
  split at hA
  · rename_i ha
    split at hA
    · rename_i n hn
      split at hA
      · simp at hA; subst hA
        refine ⟨_, by simp [part, aggT_run ha, sizeT_run hn]; rfl, ?_⟩
        refine LRel.agg ?_
        have := (LRel.drop hc o).take n
        simpa [ARel, List.extract_eq_take_drop] using this
      · simp at hA
    · simp at hA
  · rename_i ha
    obtain ⟨y, hy, hv⟩ := hc.get hA
    rw [Array.getElem?_toList] at hy
    exact ⟨y, by simp [part, aggT_run ha, hy], hv⟩
  · simp at hA

def eqFields (P : Program) (eq : TypeId → Value → Value → Option Bool) : List Field → List Value → List Value → Option Bool
  | [], _, _ => some true
  | f :: fs, xs, ys =>
    if f.name ≠ "_" then
      match partA P f.type xs f.offset, partA P f.type ys f.offset with
      | some a, some b =>
        match eq f.type a b with
        | some true => eqFields P eq fs xs ys
        | some false => some false
        | none => none
      | _, _ => none
    else eqFields P eq fs xs ys
def eqA (P : Program) : Nat → TypeId → Value → Value → Option Bool
  | 0, _, _, _ => none
  | d + 1, t, x, y =>
    match P.underlying t, x, y with
    | some .bool, .bool a, .bool b => some (a == b)
    | some (.int _), .int k a, .int k' b => if k = k' then some (a == b) else none
    | some .string, .string a, .string b => some (a.toList == b.toList)
    | some (.pointer _), .pointer none, .pointer b => some b.isNone
    | some (.pointer _), .pointer _, .pointer none => some false
    | some (.interface _), .nilIface, .nilIface => some true
    | some (.interface _), .nilIface, .iface _ _ => some false
    | some (.interface _), .iface _ _, .nilIface => some false
    | some (.interface _), .iface tx vx, .iface ty vy =>
      if tx ≠ ty then some false else
      match (P.info? tx).map (·.comparable) with
      | some true => eqA P d tx vx vy
      | _ => none
    | some (.struct fields), .agg xs, .agg ys => if P.stoodInHeld t then none else eqFields P (eqA P d) fields.toList xs.toList ys.toList
    | some (.slice _), .slice none _ _, .slice b _ _ => some b.isNone
    | some (.slice _), .slice _ _ _, .slice none _ _ => some false
    | some (.map _ _), .map none, .map b => some b.isNone
    | some (.map _ _), .map _, .map none => some false
    | some (.func _ _ _), .nilFunc, .nilFunc => some true
    | some (.func _ _ _), .nilFunc, .func _ _ _ => some false
    | some (.func _ _ _), .func _ _ _, .nilFunc => some false
    | _, _, _ => none

theorem eqFields_ok {eq : TypeId → Value → Value → Option Bool} {d : Nat}
    (ih : ∀ t x y x' y' b, VRel μ x x' → VRel μ y y' → eq t x y = some b → ∀ w, (Op.equalIn d t x' y').run P w = .ok b w) :
    ∀ (fs : List Field) (xs ys xs' ys' : Array Value) (b : Bool), ARel μ xs xs' → ARel μ ys ys' → eqFields P eq fs xs.toList ys.toList = some b → ∀ w, (Op.eqFields d xs' ys' fs).run P w = .ok b w := by
  intro fs
  induction fs with
  | nil => intro xs ys xs' ys' b _ _ h w; simp [eqFields] at h; subst h; simp [Op.eqFields]
  | cons f fs ihf =>
    intro xs ys xs' ys' b hx hy h w
    simp only [eqFields] at h
    simp only [Op.eqFields]
    split at h
    · rename_i hn
      rw [if_pos hn]
      split at h
      · rename_i a c ha hc
        obtain ⟨a', r1, v1⟩ := partA_ok (P := P) hx ha w
        obtain ⟨c', r2, v2⟩ := partA_ok (P := P) hy hc w
        simp only [Sem.run_bind, r1, Result.andThen_ok, r2]
        split at h
        · rename_i he
          simp only [ih _ _ _ _ _ _ v1 v2 he w, Result.andThen_ok]
          exact ihf xs ys xs' ys' b hx hy h w
        · rename_i he
          simp at h; subst h
          simp [ih _ _ _ _ _ _ v1 v2 he w]
        · simp at h
      · simp at h
    · rename_i hn
      rw [if_neg hn]
      exact ihf xs ys xs' ys' b hx hy h w

set_option maxHeartbeats 2000000 in
theorem eqA_ok : ∀ (d : Nat) (t : TypeId) (x y x' y' : Value) (b : Bool), VRel μ x x' → VRel μ y y' → eqA P d t x y = some b → ∀ w, (Op.equalIn d t x' y').run P w = .ok b w := by
  intro d
  induction d with
  | zero => intro t x y x' y' b _ _ h; simp [eqA] at h
  | succ d ih =>
    intro t x y x' y' b hx hy h w
    simp only [eqA] at h
    split at h <;> try (simp at h; done)
    · cases hx; cases hy; simp at h; subst h; simp [Op.equalIn, run_underlying (‹P.underlying t = some _›)]
    · cases hx; cases hy; split at h <;> simp at h; subst h; simp [Op.equalIn, run_underlying (‹P.underlying t = some _›), *]
    · cases hx; cases hy; simp at h; subst h; simp [Op.equalIn, run_underlying (‹P.underlying t = some _›), beq_toListBytes]
    · cases hx; cases hy <;> simp at h <;> subst h <;> simp [Op.equalIn, run_underlying (‹P.underlying t = some _›)]
    · cases hy; cases hx <;> simp at h <;> subst h <;> first | (simp [Op.equalIn, run_underlying (‹P.underlying t = some _›)]; done) | (exfalso; simp_all; done)
    · cases hx; cases hy; simp at h; subst h; simp [Op.equalIn, run_underlying (‹P.underlying t = some _›)]
    · cases hx; cases hy; simp at h; subst h; simp [Op.equalIn, run_underlying (‹P.underlying t = some _›)]
    · cases hx; cases hy; simp at h; subst h; simp [Op.equalIn, run_underlying (‹P.underlying t = some _›)]
    · have hu := ‹P.underlying t = some _›
      cases hx with
      | iface tx hx =>
      cases hy with
      | iface ty hy =>
      split at h
      · simp at h; subst h; simp [Op.equalIn, run_underlying hu, *]
      · rename_i htt
        split at h
        · rename_i hi
          have htt' := Decidable.not_not.1 htt
          subst htt'
          obtain ⟨i, hi', hi⟩ := Option.map_eq_some_iff.1 hi
          simp [Op.equalIn, run_underlying hu, run_typeInfo hi', hi, ih _ _ _ _ _ _ hx hy h w]
        · simp at h
    · rename_i fields xs ys hu
      split at h
      · simp at h
      · rename_i hst
        have hst' : P.stoodInHeld t = false := by simpa using hst
        cases hx with
        | agg h1 h3 =>
          cases hy with
          | agg h2 h4 =>
            have hf : P.fieldsOf t = fields := by simp [Program.fieldsOf, hu]
            rw [run_equalIn_struct w d t _ _ (by rw [hf]; exact hu) hst', hf]
            exact eqFields_ok (fun t x y x' y' b h1 h2 h3 w => ih t x y x' y' b h1 h2 h3 w) _ _ _ _ _ b (ARel.of h1 h3) (ARel.of h2 h4) h w
    · cases hx; cases hy <;> simp at h <;> subst h <;> simp [Op.equalIn, run_underlying (‹P.underlying t = some _›)]
    · cases hy; cases hx <;> simp at h <;> subst h <;> first | (simp [Op.equalIn, run_underlying (‹P.underlying t = some _›)]; done) | (exfalso; simp_all; done)
    · cases hx; cases hy <;> simp at h <;> subst h <;> simp [Op.equalIn, run_underlying (‹P.underlying t = some _›)]
    · cases hy; cases hx <;> simp at h <;> subst h <;> first | (simp [Op.equalIn, run_underlying (‹P.underlying t = some _›)]; done) | (exfalso; simp_all; done)
    · cases hx; cases hy; simp at h; subst h; simp [Op.equalIn, run_underlying (‹P.underlying t = some _›)]
    · cases hx; cases hy <;> simp at h <;> subst h <;> simp [Op.equalIn, run_underlying (‹P.underlying t = some _›)]
    · cases hy; cases hx <;> simp at h <;> subst h <;> first | (simp [Op.equalIn, run_underlying (‹P.underlying t = some _›)]; done) | (exfalso; simp_all; done)
end
end Go.Ab
