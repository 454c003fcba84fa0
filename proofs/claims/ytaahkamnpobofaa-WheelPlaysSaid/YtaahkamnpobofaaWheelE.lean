/- Things that are due: what counts, the first that does; no condition. -/
import Derived.Test.YtaahkamnpobofaaWheelD
import Derived.Test.YtaahkamnpobofaaPWheelB
namespace Go.Proofs.Ytaahkamnpobofaa
open Go.Ab
theorem lkp_m (q : Int) (M : List (Int × Int)) : lkp q (M.map mcell) = (lk q M).map fun n => .int .i64 n := by
  induction M with
  | nil => rfl
  | cons p ms ih =>
    by_cases h : p.1 = q
    · simp [lkp, lk, mcell, h]
    · simp only [List.map_cons, lkp, mcell, lk, if_neg h]; exact ih
theorem put_m (q n : Int) (M : List (Int × Int)) : putM q (.int .i64 n) (M.map mcell) = (pu q n M).map mcell := by
  induction M with
  | nil => rfl
  | cons p ms ih =>
    by_cases h : p.1 = q
    · simp [putM, pu, mcell, h]
    · simp only [List.map_cons, putM, mcell, pu, if_neg h]; congr 1
theorem del_m (q : Int) (M : List (Int × Int)) : delM q (M.map mcell) = (de q M).map mcell := by
  induction M with
  | nil => rfl
  | cons p ms ih =>
    by_cases h : p.1 = q
    · simp [delM, de, mcell, h]
    · simp only [List.map_cons, delM, mcell, de, if_neg h]; congr 1
section
variable {k d b : Nat} {h g : Hp} {v : Value} {H : List Th} {M : List (Int × Int)} {L : List Th} {S : Nat → Prop}
theorem WM.look (m : WM h k d b v H M) (q : Int) : lookupA Try.prog 36 (.map (some b)) (.int .i64 q) true h = some (.tuple #[.int .i64 ((lk q M).getD 0), .bool (lk q M).isSome]) := by
  have := m.mp.look2 (P := Try.prog) (t := 36) (kt := 3) (et := 3) (z := .int .i64 0) (by simp) (by simp [intK]) (by simp) q
  rw [lkp_m] at this
  refine this.trans ?_
  cases lk q M <;> rfl
theorem WM.putA (m : WM h k d b v H M) (q n : Int) : ∃ g, mapUpdateA Try.prog 36 (.map (some b)) (.int .i64 q) (.int .i64 n) h = some g ∧ WM g k d b v H (pu q n M) ∧ Upd (fun j => j = b) h g := by
  have e := m.mp.put (P := Try.prog) (t := 36) (kt := 3) (et := 3) (by simp) (by simp [intK]) q (.int .i64 n)
  have u : Upd (fun j => j = b) h (h.set b (.map ((putM q (.int .i64 n) (M.map mcell)).map (cellM intK)))) := Upd.set (S := (· = b)) rfl _
  refine ⟨_, e, ⟨u.at m.at_ m.db, m.to.upd u fun j hj => (m.nd j hj).2, ?_, m.nd, m.db, m.kd, m.kb⟩, u⟩
  rw [← put_m]
  exact m.mp.set _
theorem WM.delA (m : WM h k d b v H M) {q n : Int} (hq : lk q M = some n) : ∃ g, deleteA Try.prog 36 (.map (some b)) (.int .i64 q) h = some g ∧ WM g k d b v H (de q M) ∧ Upd (fun j => j = b) h g := by
  have e := m.mp.del (P := Try.prog) (t := 36) (kt := 3) (et := 3) (by simp) (by simp [intK]) q (v := .int .i64 n) (by rw [lkp_m, hq]; rfl)
  have u : Upd (fun j => j = b) h (h.set b (.map ((delM q (M.map mcell)).map (cellM intK)))) := Upd.set (S := (· = b)) rfl _
  refine ⟨_, e, ⟨u.at m.at_ m.db, m.to.upd u fun j hj => (m.nd j hj).2, ?_, m.nd, m.db, m.kd, m.kb⟩, u⟩
  rw [← del_m]
  exact m.mp.set _
theorem counts_ev (m : WM h k d b v H M) (x : Th) : EvA Try.prog 55 [.pointer (some ⟨d, 0, none⟩), .agg #[.int .i64 x.due, .int .i64 x.key]] (fun r h' => h' = h ∧ r = .bool (decide (lk x.key M = some x.due))) h := by
  refine EvA.forget (Q := fun r => r = .bool (decide (lk x.key M = some x.due))) ?_
  refine EvA.body Try.func55 rfl (by kernel_rfl) (by simp) ?_
  apply Run.ok
  have s0 : Same h (h ++ [Blk.cells x.cells false none]) := Same.new _
  have hx : (h ++ [Blk.cells x.cells false none])[h.length]? = some (.cells x.cells false none) := by simp
  have m0 := m.same s0
  have l1 := m0.l1
  have lo := m0.look x.key
  have x0 := load_at (P := Try.prog) (t := 3) (o := 0) hx (by simp)
  have x1 := load_at (P := Try.prog) (t := 3) (o := 1) hx (by simp)
  simp only [Th.cells, List.getElem?_cons_zero, List.getElem?_cons_succ] at x0 x1 l1 lo
  have st := same_tail26 s0
  simp only [Th.cells] at st
  simp [spl]
  refine WpA.drawnA [0, 1, 2, 3, 4, 5, 6, 7, 8, 9, 10, 11] [] (by kernel_rfl) (by decide +kernel) (by decide +kernel) ?_
  cases hq : lk x.key M with
  | none =>
    rw [hq] at lo
    simp [l1, lo, x1, flat, ground, -load_ptr]
  | some n =>
    rw [hq] at lo
    by_cases e : n = x.due
    · subst e
      simp [l1, lo, x0, x1, flat, ground, -load_ptr]
    · have e' : (n == x.due) = false := by simpa using e
      simp [l1, lo, x0, x1, e, e', flat, ground, -load_ptr]
/-- what top answers -/
def topV (L : List Th) : Value := match L with
  | [] => .tuple #[.agg #[.int .i64 0, .int .i64 0], .bool false]
  | x :: _ => .tuple #[.agg #[.int .i64 x.due, .int .i64 x.key], .bool true]
/-- what top leaves -/
def TopQ (h : Hp) (k d b : Nat) (v : Value) (H : List Th) (M : List (Int × Int)) (L : List Th) (h' : Hp) : Prop :=
  ∃ v' H', WM h' k d b v' H' M ∧ WOk H' M L ∧ Upd (fun j => j = d ∨ inRow v j) h h' ∧ (∀ j, inRow v' j → inRow v j) ∧ H'.length ≤ H.length ∧ (∀ x T, L = x :: T → 0 < H'.length ∧ nth H' 0 = x)
inductive TopLoop (h : Hp) (k d b : Nat) (v : Value) (H : List Th) (M : List (Int × Int)) (L : List Th) (c : Nat) (z : Nat) (fr : Fr) (g : Hp) : Prop
  | mk (v1 : Value) (H1 : List Th) (x : Th) (hz : z = H1.length) (f0 : fr 0 = .pointer (some ⟨d, 0, none⟩)) (f2 : fr 2 = .pointer (some ⟨c, 0, none⟩)) (m : WM g k d b v1 H1 M) (w : WOk H1 M L) (u : Upd (fun j => j = d ∨ inRow v j) h g) (n : ∀ j, inRow v1 j → inRow v j) (hl : H1.length ≤ H.length)
      (hc : g[c]? = some (.cells x.cells false none))
set_option maxHeartbeats 4000000 in
theorem top_ev (m : WM h k d b v H M) (w : WOk H M L) (hl : H.length ≤ 1000000000) :
    EvA Try.prog 62 [.pointer (some ⟨d, 0, none⟩)] (fun r h' => r = topV L ∧ TopQ h k d b v H M L h') h := by
  refine EvA.body Try.func62 rfl (by kernel_rfl) (by simp) ?_
  apply Run.ok
  have s0 : Same h (h ++ [Blk.cells [.int .i64 0, .int .i64 0] false none]) := Same.new _
  have ab := fun j (hj : inRow v j) => (m.to.above j hj).2
  have hlt := m.lt
  obtain ⟨c, hcc⟩ : ∃ c, c = h.length := ⟨_, rfl⟩
  simp [← hcc]
  refine WpA.loop (TopLoop h k d b v H M L c) (k := H.length) ⟨v, H, ⟨0, 0⟩, rfl, by simp, by simp, m.same s0, w, s0.mono fun _ _ h => h.elim, fun _ h => h, Nat.le_refl _, by simp [Th.cells, hcc]⟩ ?_
  rintro z fr g ⟨v1, H1, x, rfl, f0, f2, m1, w1, u1, n1, hl1, hc⟩
  apply Run.ok
  have l0 := m1.l0
  have tl := TLen m1.to.tr
  have hclt := hp_lt hc
  have store : ∀ (gg : Hp) (y z : Th), gg[c]? = some (.cells y.cells false none) → storeA Try.prog 93 (.pointer (some ⟨c, 0, none⟩)) (.agg #[.int .i64 z.due, .int .i64 z.key]) gg = some (gg.set c (.cells z.cells false none)) := fun gg y z hy => by
    simp [storeA, hy, cellsOf, spl, Th.cells]
  by_cases h0 : 0 < H1.length
  · have h0' : (0 : Int) < (H1.length : Nat) := by omega
    have a0 := TIA m1.to.tr h0
    have g0 := TAG m1.to.tr h0
    rw [show ((0 : Nat) : Int) = 0 from rfl, Nat.zero_mul, Nat.add_zero] at a0
    rw [Nat.zero_mul, Nat.add_zero] at g0
    simp [f0, l0, tl, h0, a0, g0, -load_ptr]
    refine after_call (counts_ev m1 (nth H1 0)) ?_
    rintro r gx ⟨ex, rfl⟩
    subst ex
    by_cases hq : lk (nth H1 0).key M = some (nth H1 0).due
    · obtain ⟨T, hT⟩ := w1.head h0 hq
      have e6 := store gx x (nth H1 0) hc
      have u6 : Upd (fun j => j = c) gx (gx.set c (.cells (nth H1 0).cells false none)) := Upd.set (S := (· = c)) rfl _
      have m6 := m1.upd u6 (by omega) (by omega) (fun j hj e => by have := ab j (n1 j hj); omega)
      have hc6 : (gx.set c (.cells (nth H1 0).cells false none))[c]? = some (.cells (nth H1 0).cells false none) := by simp [hclt]
      have l6 := ldT hc6
      generalize gx.set c (.cells (nth H1 0).cells false none) = g6 at e6 u6 m6 hc6 l6
      simp [f0, f2, hq, l0, a0, g0, e6, l6, -load_ptr, -store_ptr]
      refine ⟨by rw [hT]; rfl, v1, H1, m6, w1, Upd.trans u1 u6 fun j hj e => by omega, n1, hl1, fun y S hy => ⟨h0, ?_⟩⟩
      rw [hT] at hy
      exact (List.cons.inj hy).1
    · simp [f0, hq]
      refine after_call (pop_ev m1 w1.heap h0 (by omega)) ?_
      rintro r g2 ⟨rfl, v2, H2, p2, hh2, m2, u2, n2⟩
      have hc2 := u2.at hc (fun e => by rcases e with e | e; omega; have := ab c (n1 c e); omega)
      have hlen := p2.length_eq
      simp at hlen
      simp [-roundQ_normal, ↓rq]
      exact stop_intro ⟨H2.length, by omega, v2, H2, x, rfl, by simp [f0], by simp [f2], m2, w1.skip hq p2 hh2, Upd.trans u1 u2 fun j hj e => by rcases e with e | e; exact .inl e; exact .inr (n1 j e), fun j hj => n1 j (n2 j hj), by omega, hc2⟩
  · have h0' : ¬ (0 : Int) < (H1.length : Nat) := by omega
    have hL := w1.none (by omega)
    subst hL
    have e6 := store g x ⟨0, 0⟩ hc
    have u6 : Upd (fun j => j = c) g (g.set c (.cells (Th.cells ⟨0, 0⟩) false none)) := Upd.set (S := (· = c)) rfl _
    have m6 := m1.upd u6 (by omega) (by omega) (fun j hj e => by have := ab j (n1 j hj); omega)
    have hc6 : (g.set c (.cells (Th.cells ⟨0, 0⟩) false none))[c]? = some (.cells (Th.cells ⟨0, 0⟩) false none) := by simp [hclt]
    have l6 := ldT hc6
    generalize g.set c (.cells (Th.cells ⟨0, 0⟩) false none) = g6 at e6 u6 m6 hc6 l6
    simp only at e6 l6
    simp [f0, f2, l0, tl, h0, e6, l6, -load_ptr, -store_ptr]
    exact ⟨rfl, v1, H1, m6, w1, Upd.trans u1 u6 fun j hj e => by omega, n1, hl1, fun y S hy => by cases hy⟩
end
end Go.Proofs.Ytaahkamnpobofaa
