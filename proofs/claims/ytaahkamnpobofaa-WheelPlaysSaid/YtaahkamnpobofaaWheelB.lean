/- Things that are due: a wheel in memory; up; no condition. -/
import Derived.Test.YtaahkamnpobofaaWheelA
namespace Go.Proofs.Ytaahkamnpobofaa
open Go.Ab
def mcell (p : Int × Int) : Int × Value := (p.1, .int .i64 p.2)
/-- a wheel at d, its heap behind v, its map at b -/
structure WM (h : Hp) (k d b : Nat) (v : Value) (H : List Th) (M : List (Int × Int)) : Prop where
  at_ : h[d]? = some (.cells [v, .map (some b)] false none)
  to : TO k h v H
  mp : MapAt intK h b (M.map mcell)
  nd : ∀ j, inRow v j → j ≠ d ∧ j ≠ b
  db : d ≠ b
  kd : k ≤ d
  kb : k ≤ b
section
variable {k d b : Nat} {h g : Hp} {v : Value} {H : List Th} {M : List (Int × Int)} {S : Nat → Prop}
theorem WM.upd (m : WM h k d b v H M) (u : Upd S h g) (hd : ¬ S d) (hb : ¬ S b) (hv : ∀ j, inRow v j → ¬ S j) : WM g k d b v H M := ⟨u.at m.at_ hd, m.to.upd u hv, m.mp.upd u hb, m.nd, m.db, m.kd, m.kb⟩
theorem WM.same (m : WM h k d b v H M) (u : Same h g) : WM g k d b v H M := m.upd u (fun h => h) (fun h => h) (fun _ _ h => h)
theorem WM.l0 (m : WM h k d b v H M) : loadA Try.prog 89 (.pointer (some ⟨d, 0, none⟩)) h = some v := by rw [load_at m.at_ (by simp)]; rfl
theorem WM.l1 (m : WM h k d b v H M) : loadA Try.prog 36 (.pointer (some ⟨d, 1, none⟩)) h = some (.map (some b)) := by rw [load_at m.at_ (by simp)]; rfl
theorem WM.turn {H' : List Th} (m : WM h k d b v H M) (u : Upd (inRow v) h g) (t : TO k g v H') : WM g k d b v H' M :=
  ⟨u.at m.at_ (fun e => (m.nd d e).1 rfl), t, m.mp.upd u (fun e => (m.nd b e).2 rfl), m.nd, m.db, m.kd, m.kb⟩
theorem WM.lt (m : WM h k d b v H M) : d < h.length ∧ b < h.length := ⟨hp_lt m.at_, hp_lt m.mp⟩
/-- two of the heap are changed for one another -/
theorem TO.swp (a : TO k h v H) {i p : Nat} (hi : i < H.length) (hp : p < H.length) : ∃ g1 g2, storeA Try.prog 93 (.pointer (some ⟨rbl v, rof v + i * 2, none⟩)) (.agg #[.int .i64 (nth H p).due, .int .i64 (nth H p).key]) h = some g1 ∧
    storeA Try.prog 93 (.pointer (some ⟨rbl v, rof v + p * 2, none⟩)) (.agg #[.int .i64 (nth H i).due, .int .i64 (nth H i).key]) g1 = some g2 ∧ TO k g1 v (H.set i (nth H p)) ∧ TO k g2 v (swp H i p) ∧ Upd (inRow v) h g1 ∧ Upd (inRow v) h g2 := by
  obtain ⟨g1, e1, a1, u1, _⟩ := a.put hi (nth H p)
  obtain ⟨g2, e2, a2, u2, _⟩ := a1.put (i := p) (by simpa using hp) (nth H i)
  exact ⟨g1, g2, e1, e2, a1, a2, u1, u1.trans u2 fun _ _ e => e⟩
inductive UpLoop (h : Hp) (k d b : Nat) (v : Value) (H : List Th) (M : List (Int × Int)) (z : Nat) (fr : Fr) (g : Hp) : Prop
  | mk (H1 : List Th) (f0 : fr 0 = .pointer (some ⟨d, 0, none⟩)) (f2 : fr 2 = .int .i64 (z : Nat)) (m : WM g k d b v H1 M) (u : Upd (inRow v) h g) (p : H1.Perm H) (hi : UpInv H1 z)
set_option maxHeartbeats 2000000 in
theorem up_ev (m : WM h k d b v H M) (hu : UpInv H (H.length - 1)) (hl : H.length ≤ 1000000000) :
    EvA Try.prog 52 [.pointer (some ⟨d, 0, none⟩)] (fun _ h' => ∃ H', H'.Perm H ∧ HeapOk H' ∧ WM h' k d b v H' M ∧ Upd (inRow v) h h') h := by
  refine EvA.body Try.func52 rfl (by kernel_rfl) (by simp) ?_
  apply Run.ok
  have l0 := m.l0
  have tl := TLen m.to.tr
  have hlt := hu.lt
  obtain ⟨n, hn⟩ : ∃ n, H.length = n + 1 := ⟨H.length - 1, by omega⟩
  rw [hn] at tl
  have hu' : UpInv H n := by rw [hn] at hu; exact hu
  have w0 : IntKind.i64.wrap (n : Int) = n := wrap_i64 (by omega) (by omega)
  simp [l0, tl, w0, -load_ptr]
  refine WpA.loop (UpLoop h k d b v H M) (k := n) ⟨H, by simp, by simp, m, Upd.refl, List.Perm.refl _, hu'⟩ ?_
  rintro z fr g ⟨H1, f0, f2, m1, u1, p1, hi⟩
  apply Run.ok
  have l0 := m1.l0
  have hlen := p1.length_eq
  have hz := hi.lt
  simp
  refine WpA.drawnT [0, 1, 2, 3, 4, 5, 6, 7, 8, 9, 10, 11, 12, 13, 14, 15, 16, 17, 18, 19, 20] [[], [], [], [], [], [], [], [], [], [], [], [], [], [], [], [], [], [], [], [0, 1, 2, 3, 4, 5, 6, 7, 8, 9, 10, 11, 12, 13, 14, 15, 16, 17, 18]] [[], [0], [0, 1], [0, 1, 2], [0, 1, 2, 3], [0, 1, 2, 3, 4], [0, 1, 2, 3, 4, 5], [0, 1, 2], [0, 1, 2, 3, 4, 5, 6, 7], [0, 1, 2, 3, 4, 5, 6, 7, 8], [0, 1, 2], [0, 1, 2, 10], [0, 1, 2, 10, 11], [0, 1, 2, 10, 11, 12], [0, 1, 2], [0, 1, 2, 14], [0, 1, 2, 14, 15], [0, 1, 2, 10, 11, 12, 13, 14, 15, 16], [0, 1, 2, 10, 11, 12, 13, 14, 15, 16, 17], [0, 1, 2, 3, 4, 5, 6, 7, 8, 9, 10, 11, 12, 13, 14, 15, 16, 17, 18], [0, 1, 2, 3, 4, 5, 6, 7, 8, 9, 10, 11, 12, 13, 14, 15, 16, 17, 18, 19]] (by kernel_rfl) (by decide +kernel) (by decide +kernel) (by decide +kernel) ?_
  by_cases c : z = 0
  · subst c
    have f2' : fr 2 = .int .i64 0 := f2
    simp [f2']
    exact ⟨H1, p1, hi.stop (.inl rfl), m1, u1⟩
  · obtain ⟨i, rfl⟩ : ∃ i, z = i + 1 := ⟨z - 1, by omega⟩
    have hp : i / 2 < H1.length := by omega
    have pe : (i + 1 - 1) / 2 = i / 2 := by omega
    have hq : ((i / 2 : Nat) : Int) = (i : Int) / 2 := by omega
    have wi : IntKind.i64.wrap (i : Int) = i := wrap_i64 (by omega) (by omega)
    have wh : IntKind.i64.wrap ((i : Int) / 2) = (i : Int) / 2 := wrap_i64 (by omega) (by omega)
    have c' : (0 : Int) < (i : Int) + 1 := by omega
    have f2' : fr 2 = .int .i64 ((i : Int) + 1) := by simpa using f2
    have ai := TIA m1.to.tr hz
    have ap := TIA m1.to.tr hp
    have gi := TAG m1.to.tr hz
    have gp := TAG m1.to.tr hp
    rw [hq] at ap
    rw [show ((i + 1 : Nat) : Int) = (i : Int) + 1 by omega] at ai
    obtain ⟨g1, g2, e1, e2, t1, t2, q1, q2⟩ := m1.to.swp hz hp
    have n1 := (m1.turn q1 t1).l0
    simp [f0, f2', c', l0, ai, ap, gi, gp, wi, wh, -load_ptr]
    refine after_call (ahead_ev _ _ _) ?_
    rintro w gx ⟨ex, rfl⟩
    subst ex
    by_cases hlt2 : Th.lt (nth H1 (i + 1)) (nth H1 (i / 2))
    · have hst := hi.step (by omega) (by rw [pe]; exact hlt2)
      rw [pe] at hst
      simp [hlt2, -load_ptr]
      refine WpA.drawnT [0, 1, 2, 3, 4, 5, 6, 7, 8, 9, 10, 11, 12, 13, 14, 15, 16, 17, 18, 19, 20, 21, 22, 23, 24, 25, 26, 27, 28, 29, 30, 31] [[], [], [], [], [], [], [], [], [], [], [], [], [], [], [], [], [], [], [], [], [], [], [], [], [], [], [], [], [], [0, 1, 2, 3, 4, 5, 6, 7, 8, 12, 13, 14, 15, 16, 17, 18, 19, 20, 21, 22, 23, 24, 25, 26, 27, 28], [], [0, 1, 2, 3, 4, 5, 6, 7, 8, 9, 10, 11, 12, 13, 14, 15, 16, 17, 18, 19, 20, 21, 22, 23, 24, 25, 26, 27, 28, 29, 30]] [[], [0], [0, 1], [0, 1, 2], [], [], [5], [5, 6], [5, 6, 7], [], [9], [9, 10], [], [12], [12, 13], [12, 13, 14], [], [16], [16, 17], [12, 13, 14, 15, 16, 17, 18], [12, 13, 14, 15, 16, 17, 18, 19], [], [21], [21, 22], [21, 22, 23], [], [21, 22, 23, 24, 25], [21, 22, 23, 24, 25, 26], [0, 1, 2, 3, 4, 5, 6, 7, 8, 12, 13, 14, 15, 16, 17, 18, 19, 20, 21, 22, 23, 24, 25, 26, 27], [0, 1, 2, 3, 4, 5, 6, 7, 8, 12, 13, 14, 15, 16, 17, 18, 19, 20, 21, 22, 23, 24, 25, 26, 27, 28], [0, 1, 2, 3, 4, 5, 6, 7, 8, 9, 10, 11, 12, 13, 14, 15, 16, 17, 18, 19, 20, 21, 22, 23, 24, 25, 26, 27, 28, 29], [0, 1, 2, 3, 4, 5, 6, 7, 8, 9, 10, 11, 12, 13, 14, 15, 16, 17, 18, 19, 20, 21, 22, 23, 24, 25, 26, 27, 28, 29, 30]] (by kernel_rfl) (by decide +kernel) (by decide +kernel) (by decide +kernel) ?_
      simp [f0, f2', l0, ai, ap, gi, gp, wi, wh, e1, e2, n1, -load_ptr, -store_ptr, -roundQ_normal, ↓rq]
      exact stop_intro ⟨i / 2, by omega, swp H1 (i + 1) (i / 2), by simp [f0], by simp, m1.turn q2 t2, u1.trans q2 fun _ _ e => e, (swp_perm hz hp).trans p1, hst⟩
    · simp [hlt2, -load_ptr]
      exact ⟨H1, p1, hi.stop (.inr (by rw [pe]; exact hlt2)), m1, u1⟩
end
end Go.Proofs.Ytaahkamnpobofaa
