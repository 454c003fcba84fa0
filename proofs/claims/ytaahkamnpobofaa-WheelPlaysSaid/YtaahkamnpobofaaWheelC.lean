/- Things that are due: down, pop; no condition. -/
import Derived.Test.YtaahkamnpobofaaWheelB
namespace Go.Proofs.Ytaahkamnpobofaa
open Go.Ab
section
variable {k d b : Nat} {h g : Hp} {v : Value} {H : List Th} {M : List (Int × Int)} {S : Nat → Prop}
inductive DnLoop (h : Hp) (k d b : Nat) (v : Value) (H : List Th) (M : List (Int × Int)) (z : Nat) (fr : Fr) (g : Hp) : Prop
  | mk (i : Nat) (H1 : List Th) (hz : z = H.length - i) (f0 : fr 0 = .pointer (some ⟨d, 0, none⟩)) (f2 : fr 2 = .int .i64 (i : Nat)) (m : WM g k d b v H1 M) (u : Upd (inRow v) h g) (p : H1.Perm H) (hi : DnInv H1 i) (il : i = 0 ∨ i < H1.length)
inductive DnIn (d i : Nat) (H1 : List Th) (g : Hp) (z : Nat) (fr : Fr) (g' : Hp) : Prop
  | mk (c q : Nat) (hz : z = 2 * i + 3 - c) (f0 : fr 0 = .pointer (some ⟨d, 0, none⟩)) (f2 : fr 2 = .int .i64 (i : Nat)) (f3 : fr 3 = .int .i64 (q : Nat)) (f4 : fr 4 = .int .i64 (c : Nat)) (c0 : 2 * i + 1 ≤ c) (c1 : c ≤ 2 * i + 3) (hk : Kid H1 i c q) (e : g' = g)
set_option maxHeartbeats 4000000 in
theorem down_ev (m : WM h k d b v H M) (hu : DnInv H 0) (hl : H.length ≤ 1000000000) :
    EvA Try.prog 91 [.pointer (some ⟨d, 0, none⟩)] (fun _ h' => ∃ H', H'.Perm H ∧ HeapOk H' ∧ WM h' k d b v H' M ∧ Upd (inRow v) h h') h := by
  refine EvA.body Try.func91 rfl (by kernel_rfl) (by simp) ?_
  apply Run.ok
  simp
  refine WpA.loop (DnLoop h k d b v H M) (k := H.length) ⟨0, H, by simp, by simp, by simp, m, Upd.refl, List.Perm.refl _, hu, .inl rfl⟩ ?_
  rintro z fr g ⟨i, H1, rfl, f0, f2, m1, u1, p1, hi, il⟩
  apply Run.ok
  have l0 := m1.l0
  have tl := TLen m1.to.tr
  have hlen := p1.length_eq
  have wa : IntKind.i64.wrap (2 * (i : Int)) = 2 * i := wrap_i64 (by omega) (by omega)
  have wb : IntKind.i64.wrap (2 * (i : Int) + 1) = 2 * i + 1 := wrap_i64 (by omega) (by omega)
  have wc : IntKind.i64.wrap (2 * (i : Int) + 2) = 2 * i + 2 := wrap_i64 (by omega) (by omega)
  simp [f2, wa, wb]
  refine WpA.loop (DnIn d i H1 g) (k := 2) ⟨2 * i + 1, i, by omega, by simp [f0], by simp [f2], by simp, by simp, by omega, by omega, Kid.start H1 i, rfl⟩ ?_
  clear f0 f2
  rintro z2 fr2 gx ⟨c, q, rfl, f0, f2, f3, f4, c0, c1, hk, ex⟩
  subst ex
  apply Run.ok
  by_cases hc : c ≤ 2 * i + 2 ∧ c < H1.length
  · have e1 : (c : Int) ≤ 2 * (i : Int) + 2 := by omega
    have e2 : (c : Int) < (H1.length : Nat) := by omega
    have w1 : IntKind.i64.wrap ((c : Int) + 1) = (c : Int) + 1 := wrap_i64 (by omega) (by omega)
    have hql : q < H1.length := by
      rcases hk.at_ with e | ⟨e, _⟩
      · subst e; omega
      · exact e
    have ac := TIA m1.to.tr hc.2
    have aq := TIA m1.to.tr hql
    have gc := TAG m1.to.tr hc.2
    have gq := TAG m1.to.tr hql
    have hst := hk.step c0 hc.1 hc.2
    simp [f0, f2, f4, wa, wc, e1, e2, l0, tl, -load_ptr]
    refine WpA.drawnT [0, 1, 2, 3, 4, 5, 6, 7, 8, 9, 10, 11, 12, 13, 14] [[], [], [], [], [], [], [], [], [], [], [], [], [], [], [0, 1, 2, 3, 4, 5, 6, 7, 8, 9, 10, 11, 12, 13]] [[], [0], [0, 1], [0, 1, 2], [], [0, 1, 2, 3, 4], [0, 1, 2, 3, 4, 5], [], [7], [7, 8], [7, 8, 9], [], [7, 8, 9, 10, 11], [7, 8, 9, 10, 11, 12], [0, 1, 2, 3, 4, 5, 6, 7, 8, 9, 10, 11, 12, 13]] (by kernel_rfl) (by decide +kernel) (by decide +kernel) (by decide +kernel) ?_
    simp [f0, f3, f4, l0, ac, aq, gc, gq, -load_ptr]
    refine after_call (ahead_ev _ _ _) ?_
    rintro w gy ⟨ey, rfl⟩
    subst ey
    by_cases hlt : Th.lt (nth H1 c) (nth H1 q)
    · rw [if_pos hlt] at hst
      simp [f4, hlt, w1, -roundQ_normal, ↓rq]
      exact stop_intro ⟨2 * i + 3 - (c + 1), by omega, c + 1, c, rfl, by simp [f0], by simp [f2], by simp, by simp, by omega, by omega, hst, rfl⟩
    · rw [if_neg hlt] at hst
      simp [f4, hlt, w1, -roundQ_normal, ↓rq]
      exact stop_intro ⟨2 * i + 3 - (c + 1), by omega, c + 1, q, rfl, by simp [f0], by simp [f2], by simp [f3], by simp, by omega, by omega, hst, rfl⟩
  · have hex : 2 * i + 2 < c ∨ H1.length ≤ c := by omega
    by_cases hq : q = i
    · subst hq
      have hfin := hi.stop hk hex
      by_cases e1 : c ≤ 2 * q + 2
      · have e1' : (c : Int) ≤ 2 * (q : Int) + 2 := by omega
        have e2' : ¬ (c : Int) < (H1.length : Nat) := by omega
        simp [f0, f2, f3, f4, wa, wc, e1', e2', l0, tl, -load_ptr]
        exact ⟨H1, p1, hfin, m1, u1⟩
      · have e1' : ¬ (c : Int) ≤ 2 * (q : Int) + 2 := by omega
        simp [f2, f3, f4, wa, wc, e1', -load_ptr]
        exact ⟨H1, p1, hfin, m1, u1⟩
    · have hil : i < H1.length := by
        rcases hk.at_ with e | ⟨e, _⟩
        · exact absurd e hq
        · omega
      obtain ⟨hql, hiq, hst⟩ := hi.step hil hk hex hq
      have ai := TIA m1.to.tr hil
      have aq := TIA m1.to.tr hql
      have gi := TAG m1.to.tr hil
      have gq := TAG m1.to.tr hql
      obtain ⟨g1, g2, s1, s2, t1, t2, q1, q2⟩ := m1.to.swp hil hql
      have n1 := (m1.turn q1 t1).l0
      have hne : ((q : Int) == (i : Int)) = false := by simp; omega
      by_cases e1 : c ≤ 2 * i + 2
      · have e1' : (c : Int) ≤ 2 * (i : Int) + 2 := by omega
        have e2' : ¬ (c : Int) < (H1.length : Nat) := by omega
        simp [f0, f2, f3, f4, wa, wc, e1', e2', l0, tl, hne, -load_ptr]
        refine WpA.drawnT [0, 1, 2, 3, 4, 5, 6, 7, 8, 9, 10, 11, 12, 13, 14, 15, 16, 17, 18, 19, 20, 21, 22, 23, 24, 25, 26, 27] [[], [], [], [], [], [], [], [], [], [], [], [], [], [], [], [], [], [], [], [], [], [], [], [], [], [0, 1, 2, 3, 4, 5, 6, 7, 8, 10, 11, 12, 13, 14, 15, 16, 17, 18, 19, 20, 21, 22, 23, 24], [], [0, 1, 2, 3, 4, 5, 6, 7, 8, 9, 10, 11, 12, 13, 14, 15, 16, 17, 18, 19, 20, 21, 22, 23, 24, 25, 26]] [[], [0], [0, 1], [0, 1, 2], [], [], [5], [5, 6], [5, 6, 7], [], [], [10], [10, 11], [10, 11, 12], [], [10, 11, 12, 13, 14], [10, 11, 12, 13, 14, 15], [], [17], [17, 18], [17, 18, 19], [], [17, 18, 19, 20, 21], [17, 18, 19, 20, 21, 22], [0, 1, 2, 3, 4, 5, 6, 7, 8, 10, 11, 12, 13, 14, 15, 16, 17, 18, 19, 20, 21, 22, 23], [0, 1, 2, 3, 4, 5, 6, 7, 8, 10, 11, 12, 13, 14, 15, 16, 17, 18, 19, 20, 21, 22, 23, 24], [0, 1, 2, 3, 4, 5, 6, 7, 8, 9, 10, 11, 12, 13, 14, 15, 16, 17, 18, 19, 20, 21, 22, 23, 24, 25], [0, 1, 2, 3, 4, 5, 6, 7, 8, 9, 10, 11, 12, 13, 14, 15, 16, 17, 18, 19, 20, 21, 22, 23, 24, 25, 26]] (by kernel_rfl) (by decide +kernel) (by decide +kernel) (by decide +kernel) ?_
        simp [f0, f2, f3, l0, ai, aq, gi, gq, s1, s2, n1, -load_ptr, -store_ptr, -roundQ_normal, ↓rq]
        exact stop_intro ⟨H.length - q, by omega, q, swp H1 i q, rfl, by simp [f0], by simp, m1.turn q2 t2, u1.trans q2 fun _ _ e => e, (swp_perm hil hql).trans p1, hst, .inr (by rw [swp_len]; exact hql)⟩
      · have e1' : ¬ (c : Int) ≤ 2 * (i : Int) + 2 := by omega
        simp [f2, f3, f4, wa, wc, e1', hne, -load_ptr]
        refine WpA.drawnT [0, 1, 2, 3, 4, 5, 6, 7, 8, 9, 10, 11, 12, 13, 14, 15, 16, 17, 18, 19, 20, 21, 22, 23, 24, 25, 26, 27] [[], [], [], [], [], [], [], [], [], [], [], [], [], [], [], [], [], [], [], [], [], [], [], [], [], [0, 1, 2, 3, 4, 5, 6, 7, 8, 10, 11, 12, 13, 14, 15, 16, 17, 18, 19, 20, 21, 22, 23, 24], [], [0, 1, 2, 3, 4, 5, 6, 7, 8, 9, 10, 11, 12, 13, 14, 15, 16, 17, 18, 19, 20, 21, 22, 23, 24, 25, 26]] [[], [0], [0, 1], [0, 1, 2], [], [], [5], [5, 6], [5, 6, 7], [], [], [10], [10, 11], [10, 11, 12], [], [10, 11, 12, 13, 14], [10, 11, 12, 13, 14, 15], [], [17], [17, 18], [17, 18, 19], [], [17, 18, 19, 20, 21], [17, 18, 19, 20, 21, 22], [0, 1, 2, 3, 4, 5, 6, 7, 8, 10, 11, 12, 13, 14, 15, 16, 17, 18, 19, 20, 21, 22, 23], [0, 1, 2, 3, 4, 5, 6, 7, 8, 10, 11, 12, 13, 14, 15, 16, 17, 18, 19, 20, 21, 22, 23, 24], [0, 1, 2, 3, 4, 5, 6, 7, 8, 9, 10, 11, 12, 13, 14, 15, 16, 17, 18, 19, 20, 21, 22, 23, 24, 25], [0, 1, 2, 3, 4, 5, 6, 7, 8, 9, 10, 11, 12, 13, 14, 15, 16, 17, 18, 19, 20, 21, 22, 23, 24, 25, 26]] (by kernel_rfl) (by decide +kernel) (by decide +kernel) (by decide +kernel) ?_
        simp [f0, f2, f3, l0, ai, aq, gi, gq, s1, s2, n1, -load_ptr, -store_ptr, -roundQ_normal, ↓rq]
        exact stop_intro ⟨H.length - q, by omega, q, swp H1 i q, rfl, by simp [f0], by simp, m1.turn q2 t2, u1.trans q2 fun _ _ e => e, (swp_perm hil hql).trans p1, hst, .inr (by rw [swp_len]; exact hql)⟩
end
end Go.Proofs.Ytaahkamnpobofaa
