/- Things that are due: pop, counts, top; no condition. -/
import Derived.Test.YtaahkamnpobofaaWheelC
namespace Go.Proofs.Ytaahkamnpobofaa
open Go.Ab
section
variable {k d b : Nat} {h g : Hp} {v : Value} {H : List Th} {M : List (Int × Int)} {S : Nat → Prop}
/-- the heap lies elsewhere -/
theorem WM.setv {v' : Value} {H' : List Th} (m : WM h k d b v H M) (t : TO k h v' H') (nd : ∀ j, inRow v' j → j ≠ d ∧ j ≠ b) :
    ∃ g, storeA Try.prog 89 (.pointer (some ⟨d, 0, none⟩)) v' h = some g ∧ WM g k d b v' H' M ∧ Upd (fun j => j = d) h g := by
  have hB := m.at_
  have hlt := hp_lt hB
  have hcv := (Row.one t.tr.1).1
  have hov := (Row.one t.tr.1).2
  have u : Upd (fun j => j = d) h (h.set d (.cells [v', .map (some b)] false none)) := Upd.set (S := (· = d)) rfl _
  refine ⟨h.set d (.cells [v', .map (some b)] false none), by simp [storeA, hB, hcv, hov, spl], ⟨by simp [hlt], t.upd u fun j hj e => (nd j hj).1 e, m.mp.upd u fun e => m.db e.symm, nd, m.db, m.kd, m.kb⟩, u⟩
theorem ldT {c : Nat} {x : Th} (hc : h[c]? = some (.cells x.cells false none)) : loadA Try.prog 93 (.pointer (some ⟨c, 0, none⟩)) h = some (.agg #[.int .i64 x.due, .int .i64 x.key]) := by
  simp [loadA, hc, Th.cells]
/-- what pop leaves -/
def PopQ (h : Hp) (k d b : Nat) (v : Value) (H : List Th) (M : List (Int × Int)) (h' : Hp) : Prop :=
  ∃ v' H', (nth H 0 :: H').Perm H ∧ HeapOk H' ∧ WM h' k d b v' H' M ∧ Upd (fun j => j = d ∨ inRow v j) h h' ∧ ∀ j, inRow v' j → inRow v j
set_option maxHeartbeats 4000000 in
theorem pop_ev (m : WM h k d b v H M) (hh : HeapOk H) (h0 : 0 < H.length) (hl : H.length ≤ 1000000000) :
    EvA Try.prog 63 [.pointer (some ⟨d, 0, none⟩)] (fun r h' => r = .agg #[.int .i64 (nth H 0).due, .int .i64 (nth H 0).key] ∧ PopQ h k d b v H M h') h := by
  refine EvA.body Try.func63 rfl (by kernel_rfl) (by simp) ?_
  apply Run.ok
  obtain ⟨n, hn⟩ : ∃ n, H.length = n + 1 := ⟨H.length - 1, by omega⟩
  have w0 : IntKind.i64.wrap (n : Int) = n := wrap_i64 (by omega) (by omega)
  have s0 : Same h (h ++ [Blk.cells [.int .i64 0, .int .i64 0] false none]) := Same.new _
  have m0 := m.same s0
  have l0 := m0.l0
  have a0 := TIA m0.to.tr h0
  have g0 := TAG m0.to.tr h0
  rw [show ((0 : Nat) : Int) = 0 from rfl, Nat.zero_mul, Nat.add_zero] at a0
  rw [Nat.zero_mul, Nat.add_zero] at g0
  obtain ⟨x, hx⟩ : ∃ x, x = nth H 0 := ⟨_, rfl⟩
  rw [← hx] at g0 ⊢
  have s1 : Same h (h ++ [Blk.cells [.int .i64 0, .int .i64 0] false none, Blk.cells x.cells false none]) := Same.new _
  have hc2 : (h ++ [Blk.cells [.int .i64 0, .int .i64 0] false none, Blk.cells x.cells false none])[h.length]? = some (.cells (Th.cells ⟨0, 0⟩) false none) := by simp [Th.cells]
  have hc3 : (h ++ [Blk.cells [.int .i64 0, .int .i64 0] false none, Blk.cells x.cells false none])[h.length + 1]? = some (.cells x.cells false none) := by simp
  obtain ⟨G, hG⟩ : ∃ G, G = h ++ [Blk.cells [.int .i64 0, .int .i64 0] false none, Blk.cells x.cells false none] := ⟨_, rfl⟩
  rw [← hG] at s1 hc2 hc3
  have hG' : h ++ [Blk.cells [.int .i64 0, .int .i64 0] false none, Blk.cells [.int .i64 x.due, .int .i64 x.key] false none] = G := hG.symm
  have m1 := m.same s1
  have l1 := m1.l0
  have tl := TLen m1.to.tr
  rw [hn] at tl
  have hnl : n < H.length := by omega
  have a1 := TIA m1.to.tr h0
  rw [show ((0 : Nat) : Int) = 0 from rfl, Nat.zero_mul, Nat.add_zero] at a1
  have an := TIA m1.to.tr hnl
  have gn := TAG m1.to.tr hnl
  obtain ⟨g2, e2, t2, u2, len2⟩ := m1.to.put h0 (nth H n)
  rw [Nat.zero_mul, Nat.add_zero] at e2
  have m2 := m1.turn u2 t2
  have l2 := m2.l0
  obtain ⟨v', e3, t3, n3⟩ := m2.to.hi (m := n) (by simp; omega)
  obtain ⟨g4, e4, m4, u4⟩ := m2.setv t3 (fun j hj => m.nd j (n3 j hj))
  have hpop : (H.set 0 (nth H n)).take n = popL H := by unfold popL; rw [show H.length - 1 = n by omega]
  rw [hpop] at m4
  have ab := fun j (hj : inRow v j) => (m.to.above j hj).2
  have hd := m.lt.1
  have sl := s1.len
  have hGl : G.length = h.length + 2 := by rw [hG]; simp
  have hc2' := u4.at (u2.at hc2 (fun e => by have := ab _ e; omega)) (by omega)
  have hc3' := u4.at (u2.at hc3 (fun e => by have := ab _ e; omega)) (by omega)
  simp [spl, l0, a0, g0, hG', l1, tl, w0, -load_ptr]
  refine WpA.drawnT [0, 1, 2, 3, 4, 5, 6, 7, 8, 9, 10, 11, 12] [[], [], [], [], [], [], [], [], [], [], [], [], [0, 1, 2, 3, 4, 5, 6, 7, 8, 9, 10, 11]] [[], [0], [0, 1], [0, 1, 2], [], [4], [4, 5], [4, 5, 6], [], [4, 5, 6, 7, 8], [4, 5, 6, 7, 8, 9], [0, 1, 2, 3, 4, 5, 6, 7, 8, 9, 10], [0, 1, 2, 3, 4, 5, 6, 7, 8, 9, 10, 11]] (by kernel_rfl) (by decide +kernel) (by decide +kernel) (by decide +kernel) ?_
  simp [l1, a1, an, gn, e2, l2, e3, e4, -load_ptr, -store_ptr]
  refine after_call (down_ev m4 (popL_inv hh) (by rw [popL_len]; omega)) ?_
  rintro w g5 ⟨H', p5, hh5, m5, u5⟩
  have hc2'' := u5.at hc2' (fun e => by have := ab _ (n3 _ e); omega)
  have hc3'' := u5.at hc3' (fun e => by have := ab _ (n3 _ e); omega)
  have l5 := ldT hc3''
  have hlt5 := hp_lt hc2''
  have e6 : storeA Try.prog 93 (.pointer (some ⟨h.length, 0, none⟩)) (.agg #[.int .i64 x.due, .int .i64 x.key]) g5 = some (g5.set h.length (.cells x.cells false none)) := by simp [storeA, hc2'', cellsOf, spl, Th.cells]
  have u6 : Upd (fun j => j = h.length) g5 (g5.set h.length (.cells x.cells false none)) := Upd.set (S := (· = h.length)) rfl _
  have m6 := m5.upd u6 (by omega) (by have := m.lt.2; omega) (fun j hj e => by have := ab j (n3 j hj); omega)
  have hc6 : (g5.set h.length (.cells x.cells false none))[h.length]? = some (.cells x.cells false none) := by simp [hlt5]
  have l6 := ldT hc6
  generalize g5.set h.length (.cells x.cells false none) = g6 at e6 u6 m6 hc6 l6
  simp [l5, e6, l6, -load_ptr, -store_ptr]
  refine ⟨v', H', ?_, hh5, m6, ?_, n3⟩
  · exact (List.Perm.cons _ p5).trans (popL_perm h0)
  · have q1 : Upd (fun j => j = d ∨ inRow v j) h g2 := Upd.trans (s1.mono fun _ _ h => h.elim) u2 fun j hj e => .inr e
    have q2 := Upd.trans q1 u4 fun j hj e => .inl e
    have q3 := Upd.trans q2 u5 fun j hj e => .inr (n3 j e)
    exact Upd.trans q3 u6 fun j hj e => by omega
end
end Go.Proofs.Ytaahkamnpobofaa
