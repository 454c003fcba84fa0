/- Conditions in memory, and whether they hold; no condition. -/
import Derived.Test.YtbamofeocfbjbaaPExpr
import Derived.Test.YtbamofeocfbjbaaStrs
namespace Go.Proofs.Ytbamofeocfbjbaa
open Go.Ab Go.Glob
/-- a value in memory is a condition that holds, or does not; its rows lie on blocks of D -/
inductive Means (D : Nat → Prop) (h : Hp) : Value → Bool → Prop
  | cmp (o : Nat) (a b : Bs) (ho : 1 ≤ o ∧ o ≤ 3) (ha : a.length < 1000000000) : Means D h (.iface 99 (.agg #[.int .u8 (o : Nat), .string (bs a), .string (bs b)])) (cmpV o a b)
  | no {x : Value} {v : Bool} (hx : Means D h x v) : Means D h (.iface 101 (.agg #[x])) (!v)
  | all {lv : Value} {xs : List Value} (vs : List Bool) (hl : vs.length = xs.length) (hs : xs.length ≤ 1000000000) (hr : Row h 1 lv xs.length xs) (hd : ∀ j, inRow lv j → D j) (hm : ∀ i (hi : i < xs.length), Means D h xs[i] (vs.getD i false)) : Means D h (.iface 104 (.agg #[lv])) (vs.all id)
  | one {lv : Value} {xs : List Value} (vs : List Bool) (hl : vs.length = xs.length) (hs : xs.length ≤ 1000000000) (hr : Row h 1 lv xs.length xs) (hd : ∀ j, inRow lv j → D j) (hm : ∀ i (hi : i < xs.length), Means D h xs[i] (vs.getD i false)) : Means D h (.iface 106 (.agg #[lv])) (vs.any id)
theorem Means.iface {D : Nat → Prop} {h : Hp} {x : Value} {v : Bool} (m : Means D h x v) : ∃ t y, x = .iface t y := by cases m <;> exact ⟨_, _, rfl⟩
theorem Means.upd {D S : Nat → Prop} {h h' : Hp} {x : Value} {v : Bool} (m : Means D h x v) (u : Upd S h h') (hd : ∀ j, D j → ¬ S j) : Means D h' x v := by
  induction m with
  | cmp o a b ho ha => exact .cmp o a b ho ha
  | no _ ih => exact .no ih
  | all vs hl hs hr hD _ ih => exact .all vs hl hs (hr.upd u fun j hj => hd j (hD j hj)) hD ih
  | one vs hl hs hr hD _ ih => exact .one vs hl hs (hr.upd u fun j hj => hd j (hD j hj)) hD ih
theorem Means.same {D : Nat → Prop} {h h' : Hp} {x : Value} {v : Bool} (m : Means D h x v) (u : Same h h') : Means D h' x v := m.upd u fun _ _ h => h
theorem Means.mono {D E : Nat → Prop} {h : Hp} {x : Value} {v : Bool} (m : Means D h x v) (hd : ∀ j, D j → E j) : Means E h x v := by
  induction m with
  | cmp o a b ho ha => exact .cmp o a b ho ha
  | no _ ih => exact .no ih
  | all vs hl hs hr hD _ ih => exact .all vs hl hs hr (fun j hj => hd j (hD j hj)) ih
  | one vs hl hs hr hD _ ih => exact .one vs hl hs hr (fun j hj => hd j (hD j hj)) ih
theorem ta_hit {P : Program} {t : TypeId} {v : Value} {d : TypeDesc} (hu : P.underlying t = some d) (hd : ∀ m, d ≠ .interface m) : typeAssertA P (.iface t v) t true = some (.tuple #[v, .bool true]) := by
  unfold typeAssertA
  rw [hu]
  cases d <;> first | (exact absurd rfl (hd _)) | simp
theorem ta_miss {P : Program} {t u : TypeId} {v z : Value} {d : TypeDesc} (hu : P.underlying t = some d) (hd : ∀ m, d ≠ .interface m) (hz : zeroV P t = some z) (hne : u ≠ t) : typeAssertA P (.iface u v) t true = some (.tuple #[z, .bool false]) := by
  unfold typeAssertA
  rw [hu, hz]
  cases d <;> first | (exact absurd rfl (hd _)) | simp [hne]
section
variable {h : Hp}
/-- does one of several hold, as a function has it? -/
theorem ianyFunc_ev {lv : Value} {xs : List Value} {f : FuncId} (p : Nat → Bool) (hr : Row h 1 lv xs.length xs) (hs : xs.length ≤ 1000000000) (hif : ∀ x ∈ xs, ∃ t y, x = Value.iface t y)
    (hf : ∀ i (hi : i < xs.length) g, Same h g → EvA Try.prog f [xs[i]] (fun r g' => r = .bool (p i) ∧ Same g g') g) :
    EvA Try.prog 99 [lv, .func (.func f) #[] #[]] (fun r h' => (∃ z : Int, r = .int .i64 z ∧ (0 ≤ z ↔ ∃ i, i < xs.length ∧ p i = true)) ∧ Same h h') h := by
  refine EvA.body Try.func99 rfl (by kernel_rfl) (by simp) ?_
  apply Run.ok
  have hlen := Row.len (P := Try.prog) (t := 102) (e := 20) hr (by simp)
  simp [hlen]
  refine WpA.loop (fun k fr g => ∃ i, k = xs.length - i ∧ i ≤ xs.length ∧ fr 0 = lv ∧ fr 1 = .func (.func f) #[] #[] ∧ fr 7 = .int .i64 (xs.length : Nat) ∧ fr 8 = .int .i64 (i : Nat) ∧ Same h g ∧ ∀ j, j < i → p j = false)
    (k := xs.length) ⟨0, by simp, by omega, by simp, by simp, by simp, by simp, Same.refl, fun j hj => by omega⟩ ?_
  rintro k fr g ⟨i, rfl, hi, f0, f1, f7, f8, sm, hp⟩
  apply Run.ok
  by_cases c : i < xs.length
  · have c' : (i : Int) < xs.length := by omega
    have w1 : IntKind.i64.wrap ((i : Int) + 1) = (i : Int) + 1 := wrap_i64 (by omega) (by omega)
    have hg := hr.same sm
    have ia := Row.ia1 (P := Try.prog) (t := 102) (e := 20) hg (by simp) (by simp) c .i64
    have ld := Row.ld1 (P := Try.prog) (f := 20) hg (by simp) c
    rw [List.getElem?_eq_getElem c] at ld
    have hfi := hf i c g sm
    obtain ⟨t, y, hy⟩ := hif xs[i] (List.getElem_mem _)
    rw [hy] at ld hfi
    simp [f0, f1, f7, f8, c', ia, ld, -load_ptr]
    refine after_call hfi ?_
    rintro r g2 ⟨rfl, s2⟩
    cases hpx : p i with
    | true =>
      simp [f0, f1, f7, f8]
      exact ⟨⟨i, c, hpx⟩, sm.trans s2⟩
    | false =>
      simp [f0, f1, f7, f8, w1, -roundQ_normal, ↓rq]
      refine stop_intro ⟨xs.length - (i + 1), by omega, i + 1, rfl, by omega, by simp [f0], by simp [f1], by simp [f7], by simp, sm.trans s2, fun j hj => ?_⟩
      rcases Nat.lt_or_ge j i with h1 | h1
      · exact hp j h1
      · rw [show j = i by omega]; exact hpx
  · have c' : ¬ (i : Int) < xs.length := by omega
    simp [f7, f8, c']
    exact ⟨fun j hj => hp j (by omega), sm⟩
theorem icontains_ev {lv : Value} {xs : List Value} {f : FuncId} (p : Nat → Bool) (hr : Row h 1 lv xs.length xs) (hs : xs.length ≤ 1000000000) (hif : ∀ x ∈ xs, ∃ t y, x = Value.iface t y)
    (hf : ∀ i (hi : i < xs.length) g, Same h g → EvA Try.prog f [xs[i]] (fun r g' => r = .bool (p i) ∧ Same g g') g) :
    EvA Try.prog 77 [lv, .func (.func f) #[] #[]] (fun r h' => (∃ b, r = .bool b ∧ (b = true ↔ ∃ i, i < xs.length ∧ p i = true)) ∧ Same h h') h := by
  refine EvA.body Try.func77 rfl (by kernel_rfl) (by simp) ?_
  apply Run.ok
  simp
  refine after_call (ianyFunc_ev p hr hs hif hf) ?_
  rintro r g ⟨⟨z, rfl, hz⟩, sm⟩
  simp
  exact ⟨hz, sm⟩
theorem holds1_ev {x : Value} {v : Bool} (hx : EvA Try.prog 49 [x] (fun r g' => r = .bool v ∧ Same h g') h) :
    EvA Try.prog 78 [x] (fun r g' => r = .bool (!v) ∧ Same h g') h := by
  refine EvA.body Try.func78 rfl (by kernel_rfl) (by simp) ?_
  apply Run.ok
  simp
  refine after_call hx ?_
  rintro r g ⟨rfl, sm⟩
  simp
  exact sm
theorem getDB (vs : List Bool) {i : Nat} (hi : i < vs.length) : vs[i] = vs.getD i false := by rw [List.getD_eq_getElem?_getD, List.getElem?_eq_getElem hi]; rfl
theorem anyB (vs : List Bool) (n : Nat) (hl : vs.length = n) {b : Bool} (hb : b = true ↔ ∃ i, i < n ∧ vs.getD i false = true) : b = vs.any id := by
  subst hl
  rw [Bool.eq_iff_iff, hb, List.any_eq_true]
  constructor
  · rintro ⟨i, hi, h⟩
    exact ⟨vs[i], List.getElem_mem _, by rw [getDB vs hi]; exact h⟩
  · rintro ⟨x, hx, h⟩
    obtain ⟨i, hi, rfl⟩ := List.mem_iff_getElem.1 hx
    exact ⟨i, hi, by rw [← getDB vs hi]; exact h⟩
theorem allB (vs : List Bool) (n : Nat) (hl : vs.length = n) {b : Bool} (hb : b = true ↔ ∃ i, i < n ∧ (!vs.getD i false) = true) : (!b) = vs.all id := by
  subst hl
  have : b = vs.any fun x => !x := by
    rw [Bool.eq_iff_iff, hb, List.any_eq_true]
    constructor
    · rintro ⟨i, hi, h⟩
      exact ⟨vs[i], List.getElem_mem _, by rw [getDB vs hi]; exact h⟩
    · rintro ⟨x, hx, h⟩
      obtain ⟨i, hi, rfl⟩ := List.mem_iff_getElem.1 hx
      exact ⟨i, hi, by rw [← getDB vs hi]; exact h⟩
  rw [this, List.not_any_eq_all_not]
  simp
  rfl
set_option maxHeartbeats 1000000 in
theorem holds_ev {D : Nat → Prop} {x : Value} {v : Bool} (m : Means D h x v) : ∀ g, Same h g → EvA Try.prog 49 [x] (fun r g' => r = .bool v ∧ Same g g') g := by
  induction m with
  | cmp o a b ho ha =>
    intro g sm
    refine EvA.body Try.func49 rfl (by kernel_rfl) (by simp) ?_
    apply Run.ok
    have t1 := ta_hit (P := Try.prog) (t := 99) (v := .agg #[.int .u8 (o : Nat), .string (bs a), .string (bs b)]) (by simp; rfl) (by simp)
    simp [t1, cellsOf, spl]
    have sA : Same g (g ++ [.cells [.int .u8 (o : Nat), .string (bs a), .string (bs b)] false none]) := Same.new _
    have hsA : (g ++ [Blk.cells [.int .u8 (o : Nat), .string (bs a), .string (bs b)] false none])[g.length]? = some (.cells [.int .u8 (o : Nat), .string (bs a), .string (bs b)] false none) := by simp
    generalize g ++ [Blk.cells [.int .u8 (o : Nat), .string (bs a), .string (bs b)] false none] = gA at sA hsA ⊢
    have k0 : loadA Try.prog 97 (.pointer (some ⟨g.length, 0, none⟩)) gA = some (.int .u8 (o : Nat)) := by rw [load_at hsA (by simp)]; rfl
    have k1 : loadA Try.prog 9 (.pointer (some ⟨g.length, 1, none⟩)) gA = some (.string (bs a)) := by rw [load_at hsA (by simp)]; rfl
    have k2 : loadA Try.prog 9 (.pointer (some ⟨g.length, 2, none⟩)) gA = some (.string (bs b)) := by rw [load_at hsA (by simp)]; rfl
    unfold cmpV
    by_cases o1 : o = 1
    · subst o1
      simp [k0, k1, k2, -load_ptr]
      exact sA
    by_cases o2 : o = 2
    · subst o2
      simp [k0, k1, k2, -load_ptr]
      exact sA
    have o3 : o = 3 := by omega
    subst o3
    simp [k0, k1, k2, -load_ptr]
    refine after_call (match_ev b a _ ha) ?_
    rintro r g2 ⟨rfl, rfl⟩
    simp
    exact sA
  | @no x v hx ih =>
    intro g sm
    refine EvA.body Try.func49 rfl (by kernel_rfl) (by simp) ?_
    apply Run.ok
    obtain ⟨xt, xv, rfl⟩ := hx.iface
    have t0 := ta_miss (P := Try.prog) (t := 99) (u := 101) (v := .agg #[.iface xt xv]) (by simp; rfl) (by simp) (by simp; rfl) (by decide)
    have t1 := ta_hit (P := Try.prog) (t := 101) (v := .agg #[.iface xt xv]) (by simp; rfl) (by simp)
    simp [t0, t1, cellsOf, spl]
    refine after_call (ih _ (sm.trans (Same.new _))) ?_
    rintro r g2 ⟨rfl, s2⟩
    simp
    exact Same.trans (Same.new _) s2
  | @all lv xs vs hl hs hr hD hm ih =>
    intro g sm
    refine EvA.body Try.func49 rfl (by kernel_rfl) (by simp) ?_
    apply Run.ok
    have hc := (Row.one hr).1
    have ho := (Row.one hr).2
    have t0 := ta_miss (P := Try.prog) (t := 99) (u := 104) (v := .agg #[lv]) (by simp; rfl) (by simp) (by simp; rfl) (by decide)
    have t1 := ta_miss (P := Try.prog) (t := 101) (u := 104) (v := .agg #[lv]) (by simp; rfl) (by simp) (by simp; rfl) (by decide)
    have t2 := ta_hit (P := Try.prog) (t := 104) (v := .agg #[lv]) (by simp; rfl) (by simp)
    simp [t0, t1, t2, hc, ho, spl]
    have sA := sm.trans (Same.new (h := g) [.cells [lv] false none])
    refine after_call (icontains_ev (f := 78) (fun i => !vs.getD i false) (hr.same sA) hs (fun x hx => by obtain ⟨i, hi, rfl⟩ := List.mem_iff_getElem.1 hx; exact (hm i hi).iface) (fun i hi g' s' => holds1_ev (ih i hi g' (sA.trans s')))) ?_
    rintro r g2 ⟨⟨b, rfl, hb⟩, s2⟩
    rw [← allB vs xs.length hl hb]
    simp
    exact Same.trans (Same.new _) s2
  | @one lv xs vs hl hs hr hD hm ih =>
    intro g sm
    refine EvA.body Try.func49 rfl (by kernel_rfl) (by simp) ?_
    apply Run.ok
    have hc := (Row.one hr).1
    have ho := (Row.one hr).2
    have t0 := ta_miss (P := Try.prog) (t := 99) (u := 106) (v := .agg #[lv]) (by simp; rfl) (by simp) (by simp; rfl) (by decide)
    have t1 := ta_miss (P := Try.prog) (t := 101) (u := 106) (v := .agg #[lv]) (by simp; rfl) (by simp) (by simp; rfl) (by decide)
    have t2 := ta_miss (P := Try.prog) (t := 104) (u := 106) (v := .agg #[lv]) (by simp; rfl) (by simp) (by simp; rfl) (by decide)
    have t3 := ta_hit (P := Try.prog) (t := 106) (v := .agg #[lv]) (by simp; rfl) (by simp)
    simp [t0, t1, t2, t3, hc, ho, spl]
    have sA := sm.trans (Same.new (h := g) [.cells [lv] false none])
    refine after_call (icontains_ev (f := 49) (fun i => vs.getD i false) (hr.same sA) hs (fun x hx => by obtain ⟨i, hi, rfl⟩ := List.mem_iff_getElem.1 hx; exact (hm i hi).iface) (fun i hi g' s' => ih i hi g' (sA.trans s'))) ?_
    rintro r g2 ⟨⟨b, rfl, hb⟩, s2⟩
    rw [← anyB vs xs.length hl hb]
    simp
    exact Same.trans (Same.new _) s2
end
end Go.Proofs.Ytbamofeocfbjbaa
