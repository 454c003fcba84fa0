/- Things that are due: When, Clear, Copy; no condition. -/
import Derived.Test.YtaahkamnpobofaaWheelJ
namespace Go.Proofs.Ytaahkamnpobofaa
open Go Go.Proofs Go.Ab
theorem cloneM_ev {h : Hp} {b : Nat} {M : List (Int × Int)} (mp : MapAt intK h b (M.map mcell)) :
    EvA Try.prog 79 [.map (some b)] (fun r h' => r = .map (some h.length) ∧ h' = h ++ [.map ((M.map mcell).map (cellM intK))]) h := by
  refine ⟨by kernel_rfl, fun μ w vs hr hv => ?_⟩
  obtain ⟨y0, hvs, r0⟩ : ∃ y0, vs = #[y0] ∧ VRel μ (.map (some b)) y0 := by
    have h2 := hv.1
    simp at h2
    match vs, h2 with
    | ⟨[y0]⟩, _ => exact ⟨y0, rfl, hv.2 0 _ _ rfl rfl⟩
  obtain ⟨e, hmu, hy0⟩ : ∃ e : Ab.Place, μ b = some e ∧ y0 = .map (some e.block) := by
    cases r0 with
    | map hm => exact ⟨_, hm, rfl⟩
  subst hvs hy0
  obtain ⟨_, l, clock, hb, hE⟩ := hr.obj b e _ hmu mp
  have run := AnyW.maps_Clone cloneM e.block l clock w hb
  refine run.mono ?_
  rintro en w' ⟨rfl, rfl⟩
  have hup := Emb.put_old hr ⟨w.heap.size, 0, 0, 0⟩
  refine ⟨_, _, _, _, rfl, Step.new hr (.map l clock) (.map ((M.map mcell).map (cellM intK))) ⟨w.heap.size, 0, 0, 0⟩ rfl ⟨rfl, l, clock, ?_, hE.mono hup⟩, .map (Emb.put_new _ _ _), rfl, rfl⟩
  show (w.heap.push _)[w.heap.size]? = _
  simp
section
variable {k d b : Nat} {h g : Hp} {v v' : Value} {H H' : List Th} {M : List (Int × Int)} {L : List Th} {S : Nat → Prop}
theorem cloneT_ev (t : TO k h v H) (hl : H.length ≤ 1000000000) : EvA Try.prog 78 [v] (fun r h' => TO h.length h' r H ∧ Same h h') h := by
  refine EvA.body Try.func78 rfl (by kernel_rfl) (by simp) ?_
  apply Run.ok
  rcases row_nil t.tr.1 with ⟨rfl, h0⟩ | ⟨a, c, hvv⟩
  · have : H = [] := List.eq_nil_of_length_eq_zero h0
    subst this
    simp
    exact ⟨Ow.nil _, Same.refl⟩
  · have tr := t.tr.1.same (Same.new [Blk.cells [] false none])
    obtain ⟨v3, h1, e1, A1, s01, n1⟩ := Acc.appendLit (P := Try.prog) (h := h ++ [.cells [] false none]) (z := 2) (k := h.length) (b := h.length) (t := 89) (tx := 89) (e := 93) (by_ := 16) (dx := .slice 93) (Nat.le_refl _) (by simp) (by simp) (by simp) (by simp) rfl tr.2.1 tr.2.2 (by omega) (by omega)
    have s1 : Same h h1 := Same.trans (Same.new _) s01
    rw [hvv] at e1
    simp [hvv, zeros, capO, e1]
    exact ⟨A1.ow, s1⟩
theorem copy_ev (m : WM h k d b v H M) (hl : H.length ≤ 1000000000) :
    EvA Try.prog 32 [.pointer (some ⟨d, 0, none⟩)] (fun r h' => ∃ d' b' v', r = .pointer (some ⟨d', 0, none⟩) ∧ WM h' h.length d' b' v' H M ∧ Same h h') h := by
  refine EvA.body Try.func32 rfl (by kernel_rfl) (by simp) ?_
  apply Run.ok
  have l0 := m.l0
  have l1 := m.l1
  simp
  refine WpA.drawnT [0, 1, 2, 3, 5, 6, 7, 8, 4, 9, 10, 11, 12] [[], [], [], [], [0, 1, 2, 3], [], [], [], [], [0, 1, 2, 3, 4, 5, 6, 7, 8]] [[], [0], [0, 1], [0, 1, 2], [0, 1, 2, 3], [], [5], [5, 6], [5, 6, 7], [0, 1, 2, 3, 4, 5, 6, 7, 8], [0, 1, 2, 3, 4, 5, 6, 7, 8, 9], [0, 1, 2, 3, 4, 5, 6, 7, 8, 9, 10], [0, 1, 2, 3, 4, 5, 6, 7, 8, 9, 10, 11]] (by kernel_rfl) (by decide +kernel) (by decide +kernel) (by decide +kernel) ?_
  simp [l0, l1, -load_ptr]
  refine after_call (cloneT_ev m.to hl) ?_
  rintro v1 g1 ⟨t1, s1⟩
  have m1 := m.same s1
  have l11 := m1.l1
  simp [l11, -load_ptr]
  refine after_call (cloneM_ev m1.mp) ?_
  rintro r g2 ⟨rfl, e2⟩
  have sA : Same g1 g2 := by rw [e2]; exact Same.new _
  have hlen2 : g2.length = g1.length + 1 := by rw [e2]; simp
  have hmp2 : MapAt intK g2 g1.length (M.map mcell) := by rw [e2]; simp [MapAt]
  have hl1 := s1.len
  have ab := fun j (hj : inRow v1 j) => t1.above j hj
  have sB : Same g2 (g2 ++ [Blk.cells [v1, .map (some g1.length)] false none]) := Same.new _
  have hcv := (Row.one t1.tr.1).1
  have hov := (Row.one t1.tr.1).2
  have mB := (m1.same sA).same sB
  have l0B := mB.l0
  have l1B := mB.l1
  have l02 := (m1.same sA).l0
  have l12 := (m1.same sA).l1
  simp [spl, hcv, l0B, l1B, l02, l12, -load_ptr]
  refine ⟨⟨g1.length, v1, ⟨by simp, (t1.same sA).same sB, hmp2.upd sB (fun e => e), fun j hj => ?_, by omega, by omega, by omega⟩⟩, (s1.trans sA).trans sB⟩
  have := ab j hj
  omega
theorem whenW_ev (m : WM h k d b v H M) (q : Int) : EvA Try.prog 29 [.pointer (some ⟨d, 0, none⟩), .int .i64 q] (fun r h' => h' = h ∧ r = .tuple #[.int .i64 ((lk q M).getD 0), .bool (lk q M).isSome]) h := by
  refine EvA.body Try.func29 rfl (by kernel_rfl) (by simp) ?_
  apply Run.ok
  have l1 := m.l1
  have lo := m.look q
  simp [l1, lo, -load_ptr]
theorem clearW_ev (m : WM h k d b v H M) (w : WOk H M L) (q : Int) : EvA Try.prog 31 [.pointer (some ⟨d, 0, none⟩), .int .i64 q]
    (fun r h' => r = .int .i64 (if (lk q M).isSome then 0 else 5) ∧ ∃ M', WM h' k d b v H M' ∧ WOk H M' (rem q L) ∧ Upd (fun j => j = b) h h') h := by
  refine EvA.body Try.func31 rfl (by kernel_rfl) (by simp) ?_
  apply Run.ok
  have l1 := m.l1
  have lo := m.look q
  cases hq : lk q M with
  | none =>
    rw [hq] at lo
    have := w.rem_none hq
    simp [l1, lo, -load_ptr]
    exact ⟨M, m, by rw [this]; exact w, Upd.refl⟩
  | some n =>
    rw [hq] at lo
    obtain ⟨g, e, m2, u⟩ := m.delA hq
    simp [l1, lo, e, -load_ptr]
    exact ⟨_, m2, w.clear hq, u⟩
end
end Go.Proofs.Ytaahkamnpobofaa
