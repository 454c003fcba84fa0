/- What an operation does to abstract values, and that the model's operation does the same: binary operations, addresses, slices, structs; no condition. -/
import Derived.Test.YtojdhmkjegkfkaaAb2
namespace Go.Ab
open Go.RowKit
section
variable {P : Program} {μ : Emb} {h : Hp} {w : World}

theorem intA_ok {op : BinOp} {k : IntKind} {a b : Int} {v : Value} (hA : intA op k a b = some v) (t : TypeId) (hop : op ≠ .shl ∧ op ≠ .shr) (w : World) : (binOp op t (.int k a) (.int k b)).run P w = .ok v w := by
  cases op <;> simp [intA] at hA hop <;> (try subst hA) <;> (try simp [binOp, Op.intArith, Op.intCmp, Op.intBits])
  · obtain ⟨h1, rfl⟩ := hA; simp [binOp, Op.intDiv, h1]
  · obtain ⟨h1, rfl⟩ := hA; simp [binOp, Op.intDiv, h1]
theorem strA_ok {op : BinOp} {a b : ByteArray} {v : Value} (hA : strA op a b = some v) (t : TypeId) (w : World) : (binOp op t (.string a) (.string b)).run P w = .ok v w := by
  cases op <;> simp [strA] at hA <;> (try subst hA) <;> (try simp [binOp, Op.stringOp])
  · obtain ⟨h1, rfl⟩ := hA
    rw [if_neg (by omega)]
def isC : Operand → Bool
  | .const _ => true
  | _ => false
def guardA (P : Program) (t : TypeId) (x y : Operand) : Value → Value → Bool
  | .nilIface, .nilIface => isC x || isC y
  | .agg _, .agg _ => !P.eqGuardType P.depth t
  | .tuple _, _ | _, .tuple _ | .float _ _, _ | _, .float _ _ => false
  | _, _ => true
theorem eqGuard_other {t : TypeId} {x y : Operand} {a' b' : Value} (h1 : ¬ (a' = .nilIface ∧ b' = .nilIface)) (h2 : ¬ ∃ c d, a' = .agg c ∧ b' = .agg d) (op : BinOp) :
    eqGuard op t x y a' b' = pure () := by
  cases a' with
  | nilIface => cases b' <;> first | (cases op <;> rfl) | exact absurd ⟨rfl, rfl⟩ h1
  | agg c => cases b' <;> first | (cases op <;> rfl) | exact absurd ⟨_, _, rfl, rfl⟩ h2
  | _ => cases op <;> rfl
theorem eqGuard_nils {t : TypeId} {x y : Operand} (h : (isC x || isC y) = true) (op : BinOp) : eqGuard op t x y .nilIface .nilIface = pure () := by
  cases x <;> cases y <;> simp [isC] at h <;> cases op <;> rfl
theorem guardA_ok {t : TypeId} {x y : Operand} {a b a' b' : Value} (hg : guardA P t x y a b = true) (ha : VRel μ a a') (hb : VRel μ b b') (op : BinOp) (w : World) :
    (eqGuard op t x y a' b').run P w = .ok () w := by
  unfold guardA at hg
  split at hg
  · cases ha; cases hb
    simp [eqGuard_nils hg]
  · cases ha; cases hb
    exact run_eqGuard_agg w op t x y _ _ (by simpa using hg)
  · simp at hg
  · simp at hg
  · simp at hg
  · simp at hg
  · rename_i g1 g2 g3 g4 g5 g6
    rw [eqGuard_other ?_ ?_ op]
    · simp
    · rintro ⟨rfl, rfl⟩
      cases ha <;> cases hb <;> simp_all
    · rintro ⟨c, d, rfl, rfl⟩
      cases ha <;> cases hb <;> simp_all

def binA (P : Program) (op : BinOp) (t : TypeId) (x y : Operand) (a b : Value) : Option Value :=
  match op, a, b with
  | .shl, .int k n, .int _ m => if m < 0 then none else some (.int k (k.wrap (n * 2 ^ (min m.toNat k.bits))))
  | .shr, .int k n, .int _ m => if m < 0 then none else some (.int k (n.fdiv (2 ^ (min m.toNat k.bits))))
  | op, .int k n, .int k' m => if k = k' then intA op k n m else none
  | op, .string s, .string u => strA op s u
  | .eql, a, b => if guardA P t x y a b then (eqA P 10000 t a b).map .bool else none
  | .neq, a, b => if guardA P t x y a b then (eqA P 10000 t a b).map fun r => .bool (!r) else none
  | _, _, _ => none

theorem eqGuard_int (op : BinOp) (t : TypeId) (x y : Operand) (k : IntKind) (n : Int) (b : Value) : eqGuard op t x y (.int k n) b = pure () := by cases op <;> rfl
theorem eqGuard_string (op : BinOp) (t : TypeId) (x y : Operand) (s : ByteArray) (b : Value) : eqGuard op t x y (.string s) b = pure () := by cases op <;> rfl
theorem eqA_left {a b : Value} {d : Nat} {t : TypeId} (h : (∃ k, ∃ n, a = .float k n) ∨ (∃ c, a = .tuple c)) : eqA P d t a b = none := by
  cases d with
  | zero => rfl
  | succ d => rcases h with ⟨k, n, rfl⟩ | ⟨c, rfl⟩ <;> (simp only [eqA]; split <;> simp_all)
theorem eqA_right {a b : Value} {d : Nat} {t : TypeId} (h : (∃ k, ∃ n, b = .float k n) ∨ (∃ c, b = .tuple c)) : eqA P d t a b = none := by
  cases d with
  | zero => rfl
  | succ d => rcases h with ⟨k, n, rfl⟩ | ⟨c, rfl⟩ <;> (simp only [eqA]; split <;> simp_all)
set_option maxHeartbeats 1000000 in
theorem binOp_eq_ok {t : TypeId} {a b a' b' : Value} {r : Bool} (ha : VRel μ a a') (hb : VRel μ b b') (h1 : ¬ ∃ k n k' m, a = .int k n ∧ b = .int k' m) (h2 : ¬ ∃ s u, a = .string s ∧ b = .string u)
    (hA : eqA P 10000 t a b = some r) (w : World) :
    (binOp .eql t a' b').run P w = .ok (.bool r) w ∧ (binOp .neq t a' b').run P w = .ok (.bool (!r)) w := by
  have he := eqA_ok (P := P) 10000 t a b a' b' r ha hb hA w
  have hs : (∃ k, ∃ n, a = .float k n) ∨ (∃ c, a = .tuple c) → False := fun h => by rw [eqA_left h] at hA; simp at hA
  have hs' : (∃ k, ∃ n, b = .float k n) ∨ (∃ c, b = .tuple c) → False := fun h => by rw [eqA_right h] at hA; simp at hA
  have hbase : binOp .eql t a' b' = (do pure (.bool (← Op.equal t a' b'))) ∧ binOp .neq t a' b' = (do pure (.bool (!(← Op.equal t a' b')))) := by
    cases ha <;> cases hb <;> first
      | exact ⟨rfl, rfl⟩
      | (exfalso; exact h1 ⟨_, _, _, _, rfl, rfl⟩)
      | (exfalso; exact h2 ⟨_, _, rfl, rfl⟩)
      | (exfalso; exact hs (.inl ⟨_, _, rfl⟩))
      | (exfalso; exact hs (.inr ⟨_, rfl⟩))
      | (exfalso; exact hs' (.inl ⟨_, _, rfl⟩))
      | (exfalso; exact hs' (.inr ⟨_, rfl⟩))
  rw [hbase.1, hbase.2]
  simp [Op.equal, Op.maxDepth, he]

theorem binA_ok {op : BinOp} {t : TypeId} {x y : Operand} {a b a' b' v : Value} (ha : VRel μ a a') (hb : VRel μ b b') (hA : binA P op t x y a b = some v) (w : World) :
    (do eqGuard op t x y a' b'; binOp op t a' b').run P w = .ok v w ∧ VRel μ v v := by
  unfold binA at hA
  split at hA
  · cases ha; cases hb
    split at hA <;> simp at hA
    rename_i hm; subst hA
    exact ⟨by simp [eqGuard_int, binOp, Op.shift, hm], .int _ _⟩
  · cases ha; cases hb
    split at hA <;> simp at hA
    rename_i hm; subst hA
    exact ⟨by simp [eqGuard_int, binOp, Op.shift, hm], .int _ _⟩
  · rename_i k n k' m h1 h2
    cases ha; cases hb
    split at hA
    · rename_i hk; subst hk
      refine ⟨by simp [eqGuard_int, intA_ok hA t ⟨h1, h2⟩], ?_⟩
      cases op <;> simp [intA] at hA <;> first
        | (subst hA; constructor)
        | (obtain ⟨_, rfl⟩ := hA; constructor)
    · simp at hA
  · rename_i s u
    cases ha; cases hb
    refine ⟨by simp [eqGuard_string, strA_ok hA], ?_⟩
    cases op <;> simp [strA] at hA <;> first
        | (subst hA; constructor)
        | (obtain ⟨_, rfl⟩ := hA; constructor)
  · rename_i h1 h2
    split at hA
    · rename_i hg
      obtain ⟨r, hr, rfl⟩ := Option.map_eq_some_iff.1 hA
      have := binOp_eq_ok (P := P) ha hb (by rintro ⟨k, n, k', m, rfl, rfl⟩; exact h1 _ _ _ _ rfl rfl) (by rintro ⟨s, u, rfl, rfl⟩; exact h2 _ _ rfl rfl) hr w
      exact ⟨by simp [guardA_ok hg ha hb, this.1], .bool _⟩
    · simp at hA
  · rename_i h1 h2
    split at hA
    · rename_i hg
      obtain ⟨r, hr, rfl⟩ := Option.map_eq_some_iff.1 hA
      have := binOp_eq_ok (P := P) ha hb (by rintro ⟨k, n, k', m, rfl, rfl⟩; exact h1 _ _ _ _ rfl rfl) (by rintro ⟨s, u, rfl, rfl⟩; exact h2 _ _ rfl rfl) hr w
      exact ⟨by simp [guardA_ok hg ha hb, this.2], .bool _⟩
    · simp at hA
  · simp at hA

def unA (op : UnOp) (x : Value) : Option Value :=
  match op, x with
  | .neg, .int k n => some (.int k (k.wrap (0 - n)))
  | .xor, .int k n => intA .xor k (if k.signed then -1 else k.max) n
  | .not, .bool b => some (.bool (!b))
  | _, _ => none
theorem unA_ok {op : UnOp} {x x' v : Value} (hx : VRel μ x x') (hA : unA op x = some v) (w : World) : (Op.unary op x').run P w = .ok v w ∧ VRel μ v v := by
  unfold unA at hA
  split at hA
  · cases hx; simp at hA; subst hA; exact ⟨by simp [Op.unary, Op.intArith], .int _ _⟩
  · cases hx; simp [intA] at hA; subst hA; exact ⟨by simp [Op.unary, Op.intBits], .int _ _⟩
  · cases hx; simp at hA; subst hA; exact ⟨by simp [Op.unary], .bool _⟩
  · simp at hA

/-! ### addresses -/
def fieldAddrA (P : Program) (s : TypeId) (p : Value) (f : Nat) : Option Value :=
  match P.underlying s, p with
  | some (.struct fields), .pointer (some ⟨b, o, none⟩) =>
    match fields[f]? with
    | some fd => match sizeT P fd.type with
      | some (_ + 1) => some (.pointer (some ⟨b, o + fd.offset, none⟩))
      | _ => none
    | none => none
  | _, _ => none
theorem fieldAddrA_ok {s : TypeId} {p p' v : Value} {f : Nat} (hp : VRel μ p p') (hA : fieldAddrA P s p f = some v) (w : World) :
    ∃ v', (Instr.fieldAt s p' f).run P w = .ok v' w ∧ VRel μ v v' := by
  unfold fieldAddrA at hA
  split at hA
  · rename_i fields b o hu
    split at hA
    · rename_i fd hf
      split at hA
      · rename_i n hn
        simp at hA; subst hA
        cases hp with
        | ptr o hb =>
          refine ⟨_, by simp [Instr.fieldAt, run_underlying hu, hf, Instr.sureAddr, fieldPlace, sizeT_run hn, Addr.add_lit]; rfl, ?_⟩
          rw [Nat.add_assoc]; exact .ptr _ hb
      · simp at hA
    · simp at hA
  · simp at hA

def fieldA (P : Program) (s : TypeId) (x : Value) (f : Nat) : Option Value :=
  match P.underlying s, x with
  | some (.struct fields), .agg cs =>
    match fields[f]? with
    | some fd => partA P fd.type cs.toList fd.offset
    | none => none
  | _, _ => none
theorem fieldA_ok {s : TypeId} {x x' v : Value} {f : Nat} (hx : VRel μ x x') (hA : fieldA P s x f = some v) (w : World) :
    ∃ v', (Instr.field s x' f).run P w = .ok v' w ∧ VRel μ v v' := by
  unfold fieldA at hA
  split at hA
  · rename_i fields cs hu
    split at hA
    · rename_i fd hf
      cases hx with
      | agg h1 h3 =>
        obtain ⟨v', r, hv⟩ := partA_ok (P := P) (ARel.of h1 h3) hA w
        exact ⟨v', by simp [Instr.field, run_underlying hu, hf, asAgg, r], hv⟩
    · simp at hA
  · simp at hA

def indexAddrA (P : Program) (t : TypeId) (x i : Value) : Option Value :=
  match P.underlying t, x, i with
  | some (.slice elem), .slice (some ⟨b, o, none⟩) n _, .int _ i =>
    match sizeT P elem with
    | some z => if 0 ≤ i ∧ i < n then some (.pointer (some ⟨b, o + i.toNat * z, none⟩)) else none
    | none => none
  | some (.array n elem), .pointer (some ⟨b, o, none⟩), .int _ i =>
    match sizeT P elem with
    | some z => if 0 ≤ i ∧ i < n then some (.pointer (some ⟨b, o + i.toNat * z, none⟩)) else none
    | none => none
  | _, _, _ => none
theorem indexAddrA_ok {t : TypeId} {x x' i i' v : Value} (hx : VRel μ x x') (hi : VRel μ i i') (hA : indexAddrA P t x i = some v) (w : World) :
    ∃ v', (Instr.indexAt t x' i').run P w = .ok v' w ∧ VRel μ v v' := by
  unfold indexAddrA at hA
  split at hA
  · rename_i elem b o n c k i hu
    split at hA
    · rename_i z hz
      split at hA
      · rename_i hin
        simp at hA; subst hA
        cases hi
        cases hx with
        | sl o n c hb hc hn =>
          refine ⟨_, by simp [Instr.indexAt, asIntOf, run_underlying hu, hin, sizeT_run hz, Addr.add_lit]; rfl, ?_⟩
          rw [Nat.add_assoc]; exact .ptr _ hb
        | slO o n l c hb hn hl hx =>
          refine ⟨_, by simp [Instr.indexAt, asIntOf, run_underlying hu, hin, sizeT_run hz, Addr.add_lit]; rfl, ?_⟩
          rw [Nat.add_assoc]; exact .ptr _ hb
        | slE o o' hb => omega
        | slZ o o' hb => omega
      · simp at hA
    · simp at hA
  · rename_i n elem b o k i hu
    split at hA
    · rename_i z hz
      split at hA
      · rename_i hin
        simp at hA; subst hA
        cases hi
        cases hx with
        | ptr o hb =>
          refine ⟨_, by simp [Instr.indexAt, asIntOf, run_underlying hu, hin, sizeT_run hz, Addr.add_lit, Instr.sureAddr]; rfl, ?_⟩
          rw [Nat.add_assoc]; exact .ptr _ hb
      · simp at hA
    · simp at hA
  · simp at hA

def indexA (P : Program) (t : TypeId) (x i : Value) : Option Value :=
  match P.underlying t, x, i with
  | some .string, .string s, .int _ i => if 0 ≤ i then (s[i.toNat]?).map fun b => .int .u8 b.toNat else none
  | some (.array n elem), .agg cs, .int _ i =>
    match sizeT P elem with
    | some z => if 0 ≤ i ∧ i < n then partA P elem cs.toList (i.toNat * z) else none
    | none => none
  | _, _, _ => none
theorem indexA_ok {t : TypeId} {x x' i i' v : Value} (hx : VRel μ x x') (hi : VRel μ i i') (hA : indexA P t x i = some v) (w : World) :
    ∃ v', (Instr.index t x' i').run P w = .ok v' w ∧ VRel μ v v' := by
  unfold indexA at hA
  split at hA
  · rename_i s k i hu
    cases hx; cases hi
    split at hA
    · rename_i h0
      obtain ⟨b, hb, rfl⟩ := Option.map_eq_some_iff.1 hA
      exact ⟨_, by simp [Instr.index, asIntOf, run_underlying hu, h0, hb], .int _ _⟩
    · simp at hA
  · rename_i n elem cs k i hu
    split at hA
    · rename_i z hz
      split at hA
      · rename_i hin
        cases hi
        cases hx with
        | agg h1 h3 =>
          obtain ⟨v', r, hv⟩ := partA_ok (P := P) (ARel.of h1 h3) hA w
          exact ⟨v', by simp [Instr.index, asIntOf, run_underlying hu, hin, sizeT_run hz, r], hv⟩
      · simp at hA
    · simp at hA
  · simp at hA

/-! ### slicing -/
def bndA (x : Option Value) (d y : Nat) : Option Nat :=
  match x with
  | none => some d
  | some (.int _ i) => if 0 ≤ i ∧ i ≤ y then some i.toNat else none
  | _ => none
theorem bndA_int {x x' : Value} {d y n : Nat} (hx : VRel μ x x') (hA : bndA (some x) d y = some n) (y' : Nat) (hy : y ≤ y') (c : BoundsCode) (w : World) :
    (Instr.sliceBound x' y' c).run P w = .ok n w ∧ n ≤ y := by
  unfold bndA at hA
  split at hA
  · simp at *
  · rename_i k i hx'
    have hx'' : x = .int k i := by simpa using hx'
    subst hx''
    split at hA
    · rename_i hin
      simp at hA; subst hA
      cases hx
      refine ⟨?_, by omega⟩
      have : 0 ≤ i ∧ i ≤ (y' : Int) := ⟨hin.1, by omega⟩
      simp [Instr.sliceBound, asIntOf, this]
    · simp at hA
  · simp at hA

/-- bounds: low, high, and how far the capacity goes -/
def bndsA (len cap : Nat) (lo hi mx : Option Value) : Option (Nat × Nat × Nat) :=
  match mx with
  | none =>
    match bndA hi len cap with
    | some h => match bndA lo 0 h with
      | some l => some (l, h, cap)
      | none => none
    | none => none
  | some m' =>
    match hi with
    | none => none
    | some h' =>
      match bndA (some m') 0 cap with
      | some m => match bndA (some h') 0 m with
        | some h => match bndA lo 0 h with
          | some l => some (l, h, m)
          | none => none
        | none => none
      | none => none
def ORelV (μ : Emb) : Option Value → Option Value → Prop
  | none, none => True
  | some x, some y => VRel μ x y
  | _, _ => False
theorem bndsA_ok {len cap l hh m : Nat} {lo hi mx lo' hi' mx' : Option Value} (h1 : ORelV μ lo lo') (h2 : ORelV μ hi hi') (h3 : ORelV μ mx mx') (hA : bndsA len cap lo hi mx = some (l, hh, m))
    (hlen : len ≤ cap) (isS : Bool) (cap' : Nat) (hc : cap ≤ cap') (w : World) :
    (Instr.sliceBounds isS len cap' lo' hi' mx').run P w = .ok (l, hh, if mx.isSome then m else cap') w ∧ l ≤ hh ∧ hh ≤ cap ∧ (mx.isSome = true → hh ≤ m ∧ m ≤ cap) := by
  unfold bndsA at hA
  cases mx with
  | none =>
    cases mx' with
    | some _ => simp [ORelV] at h3
    | none =>
      simp only at hA
      split at hA
      · rename_i hv hh1
        split at hA
        · rename_i lv hl1
          simp at hA
          obtain ⟨rfl, rfl, rfl⟩ := hA
          have e1 : (∃ c, (match hi' with | some v => Instr.sliceBound v cap' c | none => pure len : Sem Nat).run P w = .ok hv w) ∧ hv ≤ cap ∧ ∀ c, (match hi' with | some v => Instr.sliceBound v cap' c | none => pure len : Sem Nat).run P w = .ok hv w := by
            cases hi with
            | none => cases hi' with
              | some _ => simp [ORelV] at h2
              | none => simp [bndA] at hh1; subst hh1; exact ⟨⟨.index, by simp⟩, hlen, fun c => by simp⟩
            | some x => cases hi' with
              | none => simp [ORelV] at h2
              | some x' => exact ⟨⟨.index, (bndA_int (P := P) h2 hh1 cap' hc .index w).1⟩, (bndA_int (P := P) h2 hh1 cap' hc .index w).2, fun c => (bndA_int (P := P) h2 hh1 cap' hc c w).1⟩
          have e2 : lv ≤ hv ∧ ∀ c, (match lo' with | some v => Instr.sliceBound v hv c | none => pure 0 : Sem Nat).run P w = .ok lv w := by
            cases lo with
            | none => cases lo' with
              | some _ => simp [ORelV] at h1
              | none => simp [bndA] at hl1; subst hl1; exact ⟨Nat.zero_le _, fun c => by simp⟩
            | some x => cases lo' with
              | none => simp [ORelV] at h1
              | some x' => exact ⟨(bndA_int (P := P) h1 hl1 hv (Nat.le_refl _) .index w).2, fun c => (bndA_int (P := P) h1 hl1 hv (Nat.le_refl _) c w).1⟩
          refine ⟨?_, e2.1, e1.2.1, by simp⟩
          have e3 := e1.2.2
          have e4 := e2.2
          unfold Instr.sliceBounds
          cases hi' <;> cases lo' <;> simp_all
        · simp at hA
      · simp at hA
  | some mv =>
    cases mx' with
    | none => simp [ORelV] at h3
    | some mv' =>
      cases hi with
      | none => simp at hA
      | some hv0 =>
        cases hi' with
        | none => simp [ORelV] at h2
        | some hv' =>
          simp only at hA
          split at hA
          · rename_i m1 hm1
            split at hA
            · rename_i hv hh1
              split at hA
              · rename_i lv hl1
                simp at hA
                obtain ⟨rfl, rfl, rfl⟩ := hA
                have e0 := fun c => bndA_int (P := P) h3 hm1 cap' hc c w
                have e1 := fun c => bndA_int (P := P) h2 hh1 m1 (Nat.le_refl _) c w
                have e2 : lv ≤ hv ∧ ∀ c, (match lo' with | some v => Instr.sliceBound v hv c | none => pure 0 : Sem Nat).run P w = .ok lv w := by
                  cases lo with
                  | none => cases lo' with
                    | some _ => simp [ORelV] at h1
                    | none => simp [bndA] at hl1; subst hl1; exact ⟨Nat.zero_le _, fun c => by simp⟩
                  | some x => cases lo' with
                    | none => simp [ORelV] at h1
                    | some x' => exact ⟨(bndA_int (P := P) h1 hl1 hv (Nat.le_refl _) .index w).2, fun c => (bndA_int (P := P) h1 hl1 hv (Nat.le_refl _) c w).1⟩
                have e3 := (e0 .index).2
                have e4 := (e1 .index).2
                refine ⟨?_, e2.1, by omega, fun _ => ⟨e4, e3⟩⟩
                have e5 := fun c => (e0 c).1
                have e6 := fun c => (e1 c).1
                have e7 := e2.2
                unfold Instr.sliceBounds
                cases lo' <;> simp_all
              · simp at hA
            · simp at hA
          · simp at hA

def sliceA (P : Program) (t : TypeId) (x : Value) (lo hi mx : Option Value) (h : Hp) : Option Value :=
  match P.underlying t, x with
  | some .string, .string s =>
    match mx with
    | none => match bndsA s.size s.size lo hi none with
      | some (l, h, _) => some (.string (s.extract l h))
      | none => none
    | some _ => none
  | some (.slice e), .slice none 0 0 =>
    match sizeT P e, bndsA 0 0 lo hi mx with
    | some _, some _ => some (.slice none 0 0)
    | _, _ => none
  | some (.slice e), .slice (some ⟨b, o, none⟩) n c =>
    match sizeT P e with
    | some z =>
      if c < capO then
        match bndsA n c lo hi mx with
        | some (l, hh, m) => some (.slice (some ⟨b, if m = l then o else o + l * z, none⟩) (hh - l) (m - l))
        | none => none
      else
        match bndsA n (c - capO) lo hi mx with
        | some (l, hh, m) =>
          match mx with
          | some _ => if m < capO then some (.slice (some ⟨b, if m = l then o else o + l * z, none⟩) (hh - l) (m - l)) else none
          | none =>
            match h[b]? with
            | some (.cells _ _ (some k)) => if k = z then some (.slice (some ⟨b, o + l * z, none⟩) (hh - l) (capO + (c - capO - l))) else none
            | _ => none
        | none => none
    | none => none
  | _, _ => none
theorem ORelV.isSome {x y : Option Value} (h : ORelV μ x y) : x.isSome = y.isSome := by cases x <;> cases y <;> simp_all [ORelV]
theorem run_slice_slice {t e : TypeId} {z : Nat} {a : Option Addr} {n c l hh m : Nat} {lo' hi' mx' : Option Value} (hu : P.underlying t = some (.slice e)) (hz : sizeT P e = some z)
    (hr : (Instr.sliceBounds true n c lo' hi' mx').run P w = .ok (l, hh, m) w) :
    (Instr.sliceAt t (.slice a n c) lo' hi' mx').run P w = .ok (.slice (if m = l then a else a.map (·.add (l * z))) (hh - l) (m - l)) w := by
  simp [Instr.sliceAt, run_underlying hu, Instr.slice, hr, sizeT_run hz]
theorem sliceA_ok {t : TypeId} {x x' v : Value} {lo hi mx lo' hi' mx' : Option Value} (hr : HRel μ h w) (hx : VRel μ x x') (h1 : ORelV μ lo lo') (h2 : ORelV μ hi hi') (h3 : ORelV μ mx mx')
    (hA : sliceA P t x lo hi mx h = some v) : ∃ v', (Instr.sliceAt t x' lo' hi' mx').run P w = .ok v' w ∧ VRel μ v v' := by
  unfold sliceA at hA
  split at hA
  · rename_i s hu
    cases hx
    cases mx with
    | some _ => simp at hA
    | none =>
      cases mx' with
      | some _ => simp [ORelV] at h3
      | none =>
        simp only at hA
        split at hA
        · rename_i l hh m hb
          simp at hA; subst hA
          obtain ⟨r, _⟩ := bndsA_ok (P := P) h1 h2 h3 hb (Nat.le_refl _) false s.size (Nat.le_refl _) w
          exact ⟨_, by simp [Instr.sliceAt, run_underlying hu, Instr.slice, r], .string _⟩
        · simp at hA
  · rename_i e hu
    split at hA
    · rename_i z r hz hb
      simp at hA; subst hA
      cases hx
      obtain ⟨l, hh, m⟩ := r
      obtain ⟨r, r1, r2, r3⟩ := bndsA_ok (P := P) h1 h2 h3 hb (Nat.le_refl _) true 0 (Nat.le_refl _) w
      refine ⟨.slice none 0 0, ?_, .sl0⟩
      rw [run_slice_slice hu hz r]
      have e1 : l = 0 := by omega
      have e2 : hh = 0 := by omega
      subst e1; subst e2
      cases mx <;> simp at r3 ⊢
      omega
    · simp at hA
  · rename_i e b o n c hu
    split at hA
    · rename_i z hz
      split at hA
      · rename_i hc
        split at hA
        · rename_i l hh m hb
          simp at hA; subst hA
          have key : ∀ (p : Place) (hn : n ≤ c), μ b = some p → ∃ v', (Instr.sliceAt t (.slice (some ⟨p.block, p.off + o, none⟩) n c) lo' hi' mx').run P w = .ok v' w ∧
              VRel μ (.slice (some ⟨b, if m = l then o else o + l * z, none⟩) (hh - l) (m - l)) v' := by
            intro p hn hμ
            obtain ⟨r, r1, r2, r3⟩ := bndsA_ok (P := P) h1 h2 h3 hb hn true c (Nat.le_refl _) w
            have hm : (if mx.isSome = true then m else c) = m ∧ hh ≤ m ∧ m ≤ c := by
              cases mx with
              | some _ => exact ⟨rfl, r3 rfl⟩
              | none =>
                simp only [bndsA] at hb
                split at hb
                · split at hb
                  · simp at hb; obtain ⟨rfl, rfl, rfl⟩ := hb; exact ⟨rfl, r2, Nat.le_refl _⟩
                  · simp at hb
                · simp at hb
            rw [hm.1] at r
            refine ⟨_, run_slice_slice hu hz r, ?_⟩
            by_cases hml : m = l
            · rw [if_pos hml, if_pos hml]
              exact .sl o _ _ hμ (by omega) (by omega)
            · rw [if_neg hml, if_neg hml]
              simp only [Option.map_some, Addr.add_lit, Nat.add_assoc]
              exact .sl _ _ _ hμ (by omega) (by omega)
          cases hx with
          | sl o n c hμ hc hn => exact key _ hn hμ
          | slO o n l' c' hμ hn hl hx => omega
          | slE o o' hμ => omega
          | slZ o o' hμ =>
            obtain ⟨r, r1, r2, r3⟩ := bndsA_ok (P := P) h1 h2 h3 hb (Nat.le_refl _) true 0 (Nat.le_refl _) w
            have e1 : l = 0 := by omega
            have e2 : hh = 0 := by omega
            have e3 : m = 0 := by
              cases mx with
              | some _ => have := (r3 rfl).2; omega
              | none =>
                simp only [bndsA] at hb
                split at hb
                · split at hb
                  · simp at hb; omega
                  · simp at hb
                · simp at hb
            subst e1; subst e2; subst e3
            refine ⟨_, run_slice_slice hu hz r, ?_⟩
            simp
            exact .slZ _ _ hμ
        · simp at hA
      · rename_i hc
        split at hA
        · rename_i l hh m hb
          cases hx with
          | sl o n c hμ hc' hn => omega
          | slZ o o' hμ => simp [capO] at hc
          | slO o n l' c' hμ hn hl hx =>
            rename_i p
            rw [Nat.add_sub_cancel_left] at hb hA
            obtain ⟨r, r1, r2, r3⟩ := bndsA_ok (P := P) h1 h2 h3 hb hn true c' hl w
            cases mx with
            | some q =>
              simp only at hA
              split at hA
              · rename_i hmc
                simp at hA; subst hA
                have r3 := r3 rfl
                refine ⟨_, run_slice_slice hu hz r, ?_⟩
                simp only [Option.isSome_some, if_true]
                by_cases hml : m = l
                · rw [if_pos hml, if_pos hml]
                  exact .sl o _ _ hμ (by omega) (by omega)
                · rw [if_neg hml, if_neg hml]
                  simp only [Option.map_some, Addr.add_lit, Nat.add_assoc]
                  exact .sl _ _ _ hμ (by omega) (by omega)
              · simp at hA
            | none =>
              simp only at hA
              split at hA
              · rename_i cs ro k hB
                split at hA
                · rename_i hk
                  subst hk
                  simp at hA; subst hA
                  have hesz : p.esz = k := (hr.obj b p _ hμ hB).2.2.1 k rfl
                  refine ⟨_, run_slice_slice hu hz r, ?_⟩
                  simp only [Option.isSome_none, Bool.false_eq_true, if_false]
                  by_cases hml : c' = l
                  · rw [if_pos hml]
                    have e1 : hh - l = 0 := by omega
                    have e2 : l' - l = 0 := by omega
                    have e3 : c' - l = 0 := by omega
                    rw [e1, e2, e3]
                    exact .slE _ _ hμ
                  · rw [if_neg hml]
                    simp only [Option.map_some, Addr.add_lit, Nat.add_assoc]
                    refine .slO _ _ _ _ hμ (by omega) (by omega) ?_
                    rw [hesz] at hx ⊢
                    have : l * k + (c' - l) * k = c' * k := by rw [← Nat.add_mul]; congr 1; omega
                    omega
                · simp at hA
              · simp at hA
          | slE o o' hμ =>
            rename_i p
            rw [Nat.sub_self] at hb hA
            obtain ⟨r, r1, r2, r3⟩ := bndsA_ok (P := P) h1 h2 h3 hb (Nat.le_refl _) true 0 (Nat.le_refl _) w
            have e1 : l = 0 := by omega
            have e2 : hh = 0 := by omega
            subst e1; subst e2
            cases mx with
            | some q =>
              have e3 : m = 0 := by have := (r3 rfl).2; omega
              subst e3
              simp only at hA
              split at hA
              · simp at hA; subst hA
                refine ⟨_, run_slice_slice hu hz r, ?_⟩
                simp
                exact .slZ _ _ hμ
              · simp at hA
            | none =>
              simp only at hA
              split at hA
              · split at hA
                · simp at hA; subst hA
                  refine ⟨_, run_slice_slice hu hz r, ?_⟩
                  simp
                  exact .slE _ _ hμ
                · simp at hA
              · simp at hA
        · simp at hA
    · simp at hA
  · simp at hA
end
end Go.Ab
