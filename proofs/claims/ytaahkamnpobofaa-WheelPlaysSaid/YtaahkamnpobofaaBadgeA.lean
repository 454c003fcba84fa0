/- Desks of badges: whether a holder may be, the first badge of which something holds, whether one stands in the way; no condition. -/
import Derived.Test.YtaahkamnpobofaaBadges
import Derived.Test.YtaahkamnpobofaaAbF
namespace Go.Proofs.Ytaahkamnpobofaa
open Go.Ab
def wi (n a b : Int) : Bool := decide (a ≤ n) && decide (n ≤ b)
theorem good_wi (x : Bd) : x.good = (wi x.pipe 1 2147483647 && wi x.job 0 23 && wi x.runner 1 4 && wi x.heard 0 2147483647) := by
  simp only [Bd.good, wi, Bool.and_assoc]
theorem within26_ev (n a b : Int) (h : Hp) : EvA Try.prog 51 [.int .i64 n, .int .i64 a, .int .i64 b] (fun r h' => h' = h ∧ r = .bool (wi n a b)) h := by
  refine EvA.body Try.func51 rfl (by kernel_rfl) (by simp) ?_
  apply Run.ok
  unfold wi
  by_cases c : a ≤ n
  · simp [c]
  · simp [c]
theorem good26_ev (x : Bd) (h : Hp) : EvA Try.prog 48 [x.agg] (fun r h' => h' = h ∧ r = .bool x.good) h := by
  refine EvA.forget (Q := fun r => r = .bool x.good) ?_
  refine EvA.body Try.func48 rfl (by kernel_rfl) (by simp) ?_
  apply Run.ok
  rw [good_wi]
  simp [Bd.agg]
  refine after_call (within26_ev x.pipe 1 2147483647 _) ?_
  rintro r h' ⟨rfl, rfl⟩
  cases h1 : wi x.pipe 1 2147483647 with
  | false => simp [flat, ground]
  | true =>
    simp
    refine after_call (within26_ev x.job 0 23 _) ?_
    rintro r h' ⟨rfl, rfl⟩
    cases h2 : wi x.job 0 23 with
    | false => simp [flat, ground]
    | true =>
      simp
      refine after_call (within26_ev x.runner 1 4 _) ?_
      rintro r h' ⟨rfl, rfl⟩
      cases h3 : wi x.runner 1 4 with
      | false => simp [flat, ground]
      | true =>
        simp
        refine after_call (within26_ev x.heard 0 2147483647 _) ?_
        rintro r h' ⟨rfl, rfl⟩
        simp [flat, ground]
theorem task_ev (x : Bd) (h : Hp) : EvA Try.prog 82 [x.agg] (fun r h' => r = .agg #[.int .i64 x.pipe, .int .i64 x.job] ∧ Same h h') h := by
  refine EvA.body Try.func82 rfl (by kernel_rfl) (by simp) ?_
  apply Run.ok
  simp [Bd.agg]
  exact Same.new _
theorem teq (a b c d : Int) (o q : Operand) : binA Try.prog .eql 117 o q (.agg #[.int .i64 a, .int .i64 b]) (.agg #[.int .i64 c, .int .i64 d]) = some (.bool (decide (a = c) && decide (b = d))) := by
  have hg : (Try.prog).eqGuardType (Try.prog).depth 117 = false := by kernel_rfl
  have hh : (Try.prog).stoodInHeld 117 = false := by kernel_rfl
  have hs : ∀ x y : Int, eqA Try.prog 9999 3 (.int .i64 x) (.int .i64 y) = some (decide (x = y)) := fun x y => by
    have : eqA Try.prog (9998 + 1) 3 (.int .i64 x) (.int .i64 y) = some (decide (x = y)) := by simp [eqA]; rw [Bool.eq_iff_iff]; simp
    exact this
  have a0 : ∀ a b : Value, partA Try.prog 3 [a, b] 0 = some a := fun a b => by simp [partA]
  have a1 : ∀ a b : Value, partA Try.prog 3 [a, b] 1 = some b := fun a b => by simp [partA]
  have h3 : eqA Try.prog (9999 + 1) 117 (.agg #[.int .i64 a, .int .i64 b]) (.agg #[.int .i64 c, .int .i64 d]) = some (decide (a = c) && decide (b = d)) := by
    unfold eqA
    generalize hE1 : decide (a = c) = E1
    generalize hE2 : decide (b = d) = E2
    cases E1 <;> cases E2 <;> simp [hh, eqFields, hs, a0, a1, hE1, hE2]
  have h4 : eqA Try.prog 10000 117 (.agg #[.int .i64 a, .int .i64 b]) (.agg #[.int .i64 c, .int .i64 d]) = some (decide (a = c) && decide (b = d)) := h3
  simp [binA, guardA, hg, h4]
def Bd.cells (x : Bd) : List Value := [.int .i64 x.pipe, .int .i64 x.job, .int .i64 x.runner, .int .i64 x.heard]
theorem ldH {h : Hp} {c : Nat} {x : Bd} (hc : h[c]? = some (.cells x.cells false none)) : loadA Try.prog 74 (.pointer (some ⟨c, 0, none⟩)) h = some x.agg := by
  simp [loadA, hc, Bd.cells, Bd.agg]
theorem ldH2 {h : Hp} {c : Nat} {x : Bd} (hc : h[c]? = some (.cells x.cells false none)) : loadA Try.prog 3 (.pointer (some ⟨c, 2, none⟩)) h = some (.int .i64 x.runner) := by
  rw [load_at hc (by simp)]; rfl
theorem ldH3 {h : Hp} {c : Nat} {x : Bd} (hc : h[c]? = some (.cells x.cells false none)) : loadA Try.prog 3 (.pointer (some ⟨c, 3, none⟩)) h = some (.int .i64 x.heard) := by
  rw [load_at hc (by simp)]; rfl
theorem same_tail26 {h g : Hp} (s : Same h g) : ∃ t, g = h ++ t := by
  refine ⟨g.drop h.length, ?_⟩
  have h1 : g.take h.length = h := by
    apply List.ext_getElem?
    intro i
    rw [List.getElem?_take]
    split
    · rename_i hi
      exact s.2 i hi (fun h => h)
    · rename_i hi
      rw [List.getElem?_eq_none (by omega)]
  conv => lhs; rw [← List.take_append_drop h.length g, h1]
theorem busy1_ev (y x : Bd) (c : Nat) (h : Hp) (hc : h[c]? = some (.cells x.cells false none)) : EvA Try.prog 83 [y.agg, .pointer (some ⟨c, 0, none⟩)] (fun r h' => h' = h ∧ r = .bool (inWay y x)) h := by
  refine EvA.forget (Q := fun r => r = .bool (inWay y x)) ?_
  refine EvA.body Try.func83 rfl (by kernel_rfl) (by simp) ?_
  apply Run.ok
  have s0 : Same h (h ++ [Blk.cells y.cells false none]) := Same.new _
  have hy : (h ++ [Blk.cells y.cells false none])[h.length]? = some (.cells y.cells false none) := by simp
  have hx := s0.at hc
  have l1 := ldH hy
  have l2 := ldH hx
  simp only [Bd.cells] at l1 l2
  have ea : ∀ z : Bd, z.agg = .agg #[.int .i64 z.pipe, .int .i64 z.job, .int .i64 z.runner, .int .i64 z.heard] := fun _ => rfl
  rw [ea y]
  simp
  refine WpA.drawnA [0, 2, 1, 3, 4, 5, 6, 7, 8, 9, 10, 11, 12] [[], [0], [], [0, 1, 2]] (by kernel_rfl) (by decide +kernel) (by decide +kernel) ?_
  simp [l1, l2, -load_ptr]
  refine after_call (task_ev y _) ?_
  rintro r g ⟨rfl, s1⟩
  have hx1 := s1.at hx
  have hy1 := s1.at hy
  have l1' := ldH hy1
  have l2' := ldH hx1
  simp [l1', l2', -load_ptr]
  refine after_call (task_ev x _) ?_
  rintro r g2 ⟨rfl, s2⟩
  have hx2 := s2.at hx1
  have hy2 := s2.at hy1
  have l1'' := ldH hy2
  have l2'' := ldH hx2
  have m1 := ldH2 hy2
  have m2 := ldH2 hx2
  have st := same_tail26 ((s0.trans s1).trans s2)
  unfold inWay taskB
  by_cases c1 : y.pipe = x.pipe
  · by_cases c2 : y.job = x.job
    · simp [l1'', l2'', teq, c1, c2, flat, ground, -load_ptr]
      exact st
    · by_cases c3 : y.runner = x.runner <;> simp [l1'', l2'', m1, m2, teq, c1, c2, c3, flat, ground, -load_ptr] <;> exact st
  · by_cases c3 : y.runner = x.runner <;> simp [l1'', l2'', m1, m2, teq, c1, c3, flat, ground, -load_ptr] <;> exact st
end Go.Proofs.Ytaahkamnpobofaa
