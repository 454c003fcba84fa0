/- Things that are due: Set; no condition. -/
import Derived.Test.YtaahkamnpobofaaSortEv
namespace Go.Proofs.Ytaahkamnpobofaa
open Go.Ab
theorem setL_len (q n : Int) (L : List Th) : (setL q n L).length ≤ L.length + 1 := by
  rw [setL, (ins_perm _ _).length_eq, List.length_cons]
  have : (rem q L).length ≤ L.length := List.length_filter_le _ _
  omega
theorem setL_in (q n : Int) (L : List Th) : (⟨n, q⟩ : Th) ∈ setL q n L := by rw [setL, ins_mem]; exact .inl rfl
/-- a wheel whose heap is being turned -/
structure WB (h : Hp) (k d b : Nat) (v : Value) (M : List (Int × Int)) : Prop where
  at_ : h[d]? = some (.cells [v, .map (some b)] false none)
  mp : MapAt intK h b (M.map mcell)
  db : d ≠ b
  kd : k ≤ d
  kb : k ≤ b
section
variable {k d b : Nat} {h g : Hp} {v v' : Value} {H H' : List Th} {M : List (Int × Int)} {L : List Th} {S : Nat → Prop}
theorem WM.wb (m : WM h k d b v H M) : WB h k d b v M := ⟨m.at_, m.mp, m.db, m.kd, m.kb⟩
theorem WB.upd (m : WB h k d b v M) (u : Upd S h g) (hd : ¬ S d) (hb : ¬ S b) : WB g k d b v M := ⟨u.at m.at_ hd, m.mp.upd u hb, m.db, m.kd, m.kb⟩
theorem WB.l0 (m : WB h k d b v M) : loadA Try.prog 89 (.pointer (some ⟨d, 0, none⟩)) h = some v := by rw [load_at m.at_ (by simp)]; rfl
theorem WB.setv (m : WB h k d b v M) (t : TO k h v' H') (nd : ∀ j, inRow v' j → j ≠ d ∧ j ≠ b) :
    ∃ g, storeA Try.prog 89 (.pointer (some ⟨d, 0, none⟩)) v' h = some g ∧ WM g k d b v' H' M ∧ Upd (fun j => j = d) h g := by
  have hB := m.at_
  have hlt := hp_lt hB
  have hcv := (Row.one t.tr.1).1
  have hov := (Row.one t.tr.1).2
  have u : Upd (fun j => j = d) h (h.set d (.cells [v', .map (some b)] false none)) := Upd.set (S := (· = d)) rfl _
  refine ⟨h.set d (.cells [v', .map (some b)] false none), by simp [storeA, hB, hcv, hov, spl], ⟨by simp [hlt], t.upd u fun j hj e => (nd j hj).1 e, m.mp.upd u fun e => m.db e.symm, nd, m.db, m.kd, m.kb⟩, u⟩
theorem WM.size (m : WM h k d b v H M) : lenA Try.prog 36 (.map (some b)) h = some (.int .i64 (M.length : Nat)) := by
  have := m.mp.size (P := Try.prog) (t := 36) (kt := 3) (et := 3) (by simp)
  simpa using this
theorem set1_ev {c : Nat} (m : WM h k d b v H M) (hc : h[c]? = some (.cells [.pointer (some ⟨d, 0, none⟩)] false none)) (x : Th) :
    EvA Try.prog 54 [.agg #[.int .i64 x.due, .int .i64 x.key], .pointer (some ⟨c, 0, none⟩)] (fun r h' => h' = h ∧ r = .bool (!decide (lk x.key M = some x.due))) h := by
  refine EvA.forget (Q := fun r => r = .bool (!decide (lk x.key M = some x.due))) ?_
  refine EvA.body Try.func54 rfl (by kernel_rfl) (by simp) ?_
  apply Run.ok
  have s0 : Same h (h ++ [Blk.cells x.cells false none]) := Same.new _
  have hx : (h ++ [Blk.cells x.cells false none])[h.length]? = some (.cells x.cells false none) := by simp
  have lx := ldT hx
  have hc0 := s0.at hc
  have lc := load_at (P := Try.prog) (t := 34) (o := 0) hc0 (by simp)
  simp only [List.getElem?_cons_zero] at lc
  have m0 := m.same s0
  have st := same_tail26 s0
  simp only [Th.cells] at lx lc m0 st
  simp [lx, lc, -load_ptr]
  refine after_call (counts_ev m0 x) ?_
  rintro r gx ⟨ex, rfl⟩
  subst ex
  simp [flat, ground, -load_ptr]
/-- what Set leaves -/
def SetQ (h : Hp) (k d b : Nat) (v : Value) (H : List Th) (L : List Th) (h' : Hp) : Prop :=
  ∃ v' H' M', WM h' k d b v' H' M' ∧ WOk H' M' L ∧ Upd (fun j => j = d ∨ j = b ∨ inRow v j) h h' ∧ (∀ j, inRow v' j → inRow v j ∨ h.length ≤ j) ∧ H'.length ≤ H.length + 1
inductive SetF (h : Hp) (k d b : Nat) (v : Value) (H : List Th) (L : List Th) (c : Nat) (fr : Fr) (g : Hp) : Prop
  | mk (v1 : Value) (H1 : List Th) (M1 : List (Int × Int)) (f3 : fr 3 = .pointer (some ⟨c, 0, none⟩)) (m : WM g k d b v1 H1 M1) (w : WOk H1 M1 L) (u : Upd (fun j => j = d ∨ j = b ∨ inRow v j) h g) (n : ∀ j, inRow v1 j → inRow v j ∨ h.length < j) (hl : H1.length ≤ H.length + 1)
      (hc : g[c]? = some (.cells [.pointer (some ⟨d, 0, none⟩)] false none))
theorem cutW2 {P : Program} {n : Nat} {C : Code} {Q : QA} {F : Fr → Hp → Prop} {G : Prop} (main : (∀ fr g, F fr g → WpA P n C Q fr g) → G) (key : ∀ fr g, F fr g → WpA P n C Q fr g) : G := main key
set_option maxHeartbeats 8000000 in
set_option maxRecDepth 8000 in
theorem set_ev (m : WM h k d b v H M) (w : WOk H M L) (hl : H.length ≤ 100000000) (hb : L.length ≤ 100000000) (q n : Int) :
    EvA Try.prog 21 [.pointer (some ⟨d, 0, none⟩), .int .i64 q, .int .i64 n] (fun r h' => r = .int .i64 0 ∧ SetQ h k d b v H (setL q n L) h') h := by
  refine EvA.body Try.func21 rfl (by kernel_rfl) (by simp) ?_
  apply Run.ok
  have ab := fun j (hj : inRow v j) => m.to.above j hj
  have hlt := m.lt
  have hkd := m.kd
  have hkb := m.kb
  have s0 : Same h (h ++ [Blk.cells [.pointer (some ⟨d, 0, none⟩)] false none]) := Same.new _
  have hc : (h ++ [Blk.cells [.pointer (some ⟨d, 0, none⟩)] false none])[h.length]? = some (.cells [.pointer (some ⟨d, 0, none⟩)] false none) := by simp
  obtain ⟨c, hcc⟩ : ∃ c, c = h.length := ⟨_, rfl⟩
  obtain ⟨g0, hg0⟩ : ∃ g0, g0 = h ++ [Blk.cells [.pointer (some ⟨d, 0, none⟩)] false none] := ⟨_, rfl⟩
  rw [← hg0, ← hcc] at hc
  rw [← hg0] at s0
  have m0 := m.same s0
  have ldc : ∀ {gx : Hp}, gx[c]? = some (.cells [.pointer (some ⟨d, 0, none⟩)] false none) → loadA Try.prog 34 (.pointer (some ⟨c, 0, none⟩)) gx = some (.pointer (some ⟨d, 0, none⟩)) := fun hx => by
    have := load_at (P := Try.prog) (t := 34) (o := 0) hx (by simp)
    exact this
  have lc := ldc hc
  have l1 := m0.l1
  have lo := m0.look q
  have u0 : Upd (fun j => j = d ∨ j = b ∨ inRow v j) h g0 := s0.mono fun _ _ h => h.elim
  simp [← hg0, ← hcc, lc, l1, lo, -load_ptr]
  apply cutW2 (F := SetF h k d b v H (setL q n L) c)
  · intro key
    by_cases hq : lk q M = some n
    · have hsame := w.set_same hq
      simp [hq, -load_ptr]
      refine key _ _ ?_
      exact ⟨v, H, M, by simp, m0, by rw [hsame]; exact w, u0, fun j hj => .inl hj, by omega, hc⟩
    · obtain ⟨g1, e1, m1, u1⟩ := m0.putA q n
      have hc1 := u1.at hc (by omega)
      have lc1 := ldc hc1
      have l0 := m1.l0
      have hg1 := s0.len
      have hg1' := u1.len
      obtain ⟨v2, g2, e2, t2, u2, n2⟩ := m1.to.app (by omega) (by omega) ⟨n, q⟩
      obtain ⟨gX, hX⟩ : ∃ gX, gX = g1 ++ [Blk.cells [.int .i64 n, .int .i64 q] false none] := ⟨_, rfl⟩
      have sx : Same g1 gX := by rw [hX]; exact Same.new _
      have u2' : Upd (inRow v) gX g2 := by rw [hX]; exact u2
      simp only at e2
      rw [← hX] at e2
      have hcl := hp_lt hc1
      have nv : ∀ j, inRow v j → j < c := fun j hj => by have := ab j hj; omega
      have lcX := ldc (sx.at hc1)
      have l0X := (m1.same sx).l0
      have bX := ((m1.wb.upd (sx.mono (S' := fun _ => False) fun _ _ e => e) (fun e => e) (fun e => e))).upd u2' (fun e => (m.nd d e).1 rfl) (fun e => (m.nd b e).2 rfl)
      have hc2 := u2'.at (sx.at hc1) (fun e => by have := nv c e; omega)
      have nd2 : ∀ j, inRow v2 j → j ≠ d ∧ j ≠ b := fun j hj => by
        rcases n2 j hj with e | e
        · exact m.nd j e
        · omega
      obtain ⟨g3, e3, m3, u3⟩ := bX.setv t2 nd2
      have hc3 := u3.at hc2 (by omega)
      have lc3 := ldc hc3
      have lc2 := ldc hc2
      apply cutW2 (F := fun fr g => fr 1 = .int .i64 q ∧ fr 2 = .int .i64 n ∧ fr 3 = .pointer (some ⟨c, 0, none⟩) ∧ g = g1)
      · intro key2
        cases hz : lk q M with
        | none =>
          simp [lc, l1, e1, -load_ptr]
          refine key2 _ _ ?_
          exact ⟨by simp, by simp, by simp, rfl⟩
        | some z =>
          have hzn : z ≠ n := fun e => hq (by rw [hz, e])
          have hzn' : (z != n) = true := by simpa using hzn
          simp [hzn', lc, l1, e1, -load_ptr]
          refine key2 _ _ ?_
          exact ⟨by simp, by simp, by simp, rfl⟩
      rintro fr gx ⟨f1, f2, f3, ex⟩
      subst ex
      refine WpA.drawnT [0, 1, 2, 3, 4, 5, 6, 7, 8, 9, 10, 11, 12] [[], [], [], [], [], [], [], [], [], [1, 2, 3, 4, 5, 6, 7, 8], [], [], [0, 1, 2, 3, 4, 5, 6, 7, 8, 9, 10, 11]] [[], [], [1], [1, 2], [1, 2, 3], [], [], [5, 6], [5, 6, 7], [1, 2, 3, 4, 5, 6, 7, 8], [0, 1, 2, 3, 4, 5, 6, 7, 8, 9], [0, 1, 2, 3, 4, 5, 6, 7, 8, 9, 10], [0, 1, 2, 3, 4, 5, 6, 7, 8, 9, 10, 11]] (by kernel_rfl) (by decide +kernel) (by decide +kernel) (by decide +kernel) ?_
      simp [f1, f2, f3, lc1, l0, lcX, l0X, zeros, spl, capO, ← hX, e2, e3, lc2, lc3, -load_ptr, -store_ptr]
      refine after_call (up_ev m3 (by rw [List.length_append]; exact UpInv.start w.heap _) (by simp; omega)) ?_
      rintro r g4 ⟨H4, p4, hh4, m4, u4⟩
      have hlen4 := p4.length_eq
      simp at hlen4
      have hc4 := u4.at hc3 (fun e => by
        rcases n2 c e with e | e
        · have := nv c e; omega
        · omega)
      simp
      refine key _ _ ?_
      refine ⟨v2, H4, _, by simp [f3], m4, w.set q n hh4 fun t ht => p4.mem_iff.2 (by simpa using ht), ?_, fun j hj => ?_, by omega, hc4⟩
      · have a1 := Upd.trans u0 u1 fun j hj e => .inr (.inl e)
        have a2 := Upd.trans a1 (sx.mono (S' := fun _ => False) fun _ _ e => e) fun j hj e => e.elim
        have a3 := Upd.trans a2 u2' fun j hj e => .inr (.inr e)
        have a4 := Upd.trans a3 u3 fun j hj e => .inl e
        exact Upd.trans a4 u4 fun j hj e => by
          rcases n2 j e with e | e
          · exact .inr (.inr e)
          · omega
      · rcases n2 j hj with e | e
        · exact .inl e
        · exact .inr (by omega)
  · rintro fr g1 ⟨v1, H1, M1, f3, m1, w1, u1, n1, hl1, hc1⟩
    have lc1 := ldc hc1
    have l0 := m1.l0
    have l1 := m1.l1
    have tl := TLen m1.to.tr
    have sz := m1.size
    have hll := setL_len q n L
    have hlm := w1.len
    have wm : IntKind.i64.wrap (2 * (M1.length : Int)) = 2 * (M1.length : Int) := wrap_i64 (by omega) (by omega)
    have wp : IntKind.i64.wrap (2 * (M1.length : Int) + 16) = 2 * (M1.length : Int) + 16 := wrap_i64 (by omega) (by omega)
    refine WpA.drawnT [0, 1, 2, 3, 4, 5, 6, 7, 8, 9, 10, 11, 12] [] [[], [0], [0, 1], [0, 1, 2], [0, 1, 2, 3], [], [5], [5, 6], [5, 6, 7], [5, 6, 7, 8], [5, 6, 7, 8, 9], [5, 6, 7, 8, 9, 10], [0, 1, 2, 3, 4, 5, 6, 7, 8, 9, 10, 11]] (by kernel_rfl) (by decide +kernel) (by decide +kernel) (by decide +kernel) ?_
    by_cases cg : 2 * (M1.length : Int) + 16 < (H1.length : Int)
    · have hg1 := u1.len
      have hclt : c < g1.length := hp_lt hc1
      have nvc : ∀ j, inRow v1 j → j ≠ c := fun j hj e => by
        rcases n1 j hj with e' | e'
        · have := ab j e'; omega
        · omega
      have kg : k ≤ g1.length := by omega
      simp [f3, lc1, l0, l1, tl, sz, wm, wp, cg, -load_ptr]
      refine WpA.drawnT [0, 1, 2, 3, 4, 5, 6, 7, 8, 9] [[], [], [], [], [], [], [1, 2, 3, 4, 5], [], [], [0, 1, 2, 3, 4, 5, 6, 7, 8]] [[], [], [1], [1, 2], [1, 2, 3], [], [1, 2, 3, 4, 5], [0, 1, 2, 3, 4, 5, 6], [0, 1, 2, 3, 4, 5, 6, 7], [0, 1, 2, 3, 4, 5, 6, 7, 8]] (by kernel_rfl) (by decide +kernel) (by decide +kernel) (by decide +kernel) ?_
      simp [f3, lc1, l0, -load_ptr]
      refine after_call (delete_ev (p := fun x => !decide (lk x.key M1 = some x.due)) (Ok := fun g' => g'[c]? = some (.cells [.pointer (some ⟨d, 0, none⟩)] false none) ∧ ∃ H', WM g' k d b v1 H' M1) m1.to kg (by omega) ⟨54, #[.pointer (some ⟨c, 0, none⟩)], rfl, fun x g' ⟨o1, H', o2⟩ => set1_ev o2 o1 x⟩ (fun g' H' u t => ⟨u.at hc1 (fun e => nvc c e rfl), H', m1.turn u t⟩)) ?_
      rintro r2 g2 ⟨t2, u2, n2⟩
      have hc2 := u2.at hc1 (fun e => nvc c e rfl)
      have lc2 := ldc hc2
      have b2 := m1.wb.upd u2 (fun e => (m1.nd d e).1 rfl) (fun e => (m1.nd b e).2 rfl)
      obtain ⟨g3, e3, m3, u3⟩ := b2.setv t2 (fun j hj => m1.nd j (n2 j hj))
      have hc3 := u3.at hc2 (by omega)
      have lc3 := ldc hc3
      have l3 := m3.l0
      have hmem : ∀ t ∈ setL q n L, t ∈ H1.filter fun x => !(!decide (lk x.key M1 = some x.due)) := fun t ht => by
        refine List.mem_filter.2 ⟨w1.has t ht, ?_⟩
        have := (w1.map t.key t.due).2 ht
        simp [this]
      have hfl : (H1.filter fun x => !(!decide (lk x.key M1 = some x.due))).length ≤ H1.length := List.length_filter_le _ _
      have hpos : 0 < (H1.filter fun x => !(!decide (lk x.key M1 = some x.due))).length := List.length_pos_of_mem (hmem _ (setL_in q n L))
      generalize H1.filter (fun x => !(!decide (lk x.key M1 = some x.due))) = F at t2 m3 hmem hfl hpos
      simp [f3, lc2, e3, lc3, l3, -load_ptr, -store_ptr]
      refine after_call (sort_ev m3.to hpos (by omega)) ?_
      rintro r4 g4 ⟨H4, p4, so4, t4, u4⟩
      have m4 := m3.turn u4 t4
      have nr2 : ∀ j, inRow r2 j → j ≠ c := fun j hj => nvc j (n2 j hj)
      have hc4 := u4.at hc3 (fun e => nr2 c e rfl)
      have lc4 := ldc hc4
      have l4 := m4.l0
      have hlen4 := p4.length_eq
      simp
      refine WpA.drawnT [0, 1, 2, 3, 4, 5, 6, 7, 8] [[], [], [], [], [], [1, 2, 3, 4], [], [], [0, 1, 2, 3, 4, 5, 6, 7]] [[], [], [1], [1, 2], [1, 2, 3], [1, 2, 3, 4], [0, 1, 2, 3, 4, 5], [0, 1, 2, 3, 4, 5, 6], [0, 1, 2, 3, 4, 5, 6, 7]] (by kernel_rfl) (by decide +kernel) (by decide +kernel) (by decide +kernel) ?_
      simp [f3, lc4, l4, -load_ptr]
      refine after_call (compact_ev m4.to (by omega)) ?_
      rintro r5 g5 ⟨H5, t5, s5, i5, u5, n5⟩
      have hc5 := u5.at hc4 (fun e => nr2 c e rfl)
      have lc5 := ldc hc5
      have b5 := m4.wb.upd u5 (fun e => (m3.nd d e).1 rfl) (fun e => (m3.nd b e).2 rfl)
      obtain ⟨g6, e6, m6, u6⟩ := b5.setv t5 (fun j hj => m3.nd j (n5 j hj))
      have hlen5 := s5.length_le
      simp [f3, lc5, e6, -load_ptr, -store_ptr]
      refine ⟨r5, H5, M1, m6, w1.heapd (rises_heap (so4.sublist s5)) (fun t ht => i5 t (p4.mem_iff.2 (hmem t ht))), ?_, fun j hj => (n1 j (n2 j (n5 j hj))).imp id fun h => by omega, by omega⟩
      have nv1 : ∀ j, j < h.length → inRow v1 j → (j = d ∨ j = b ∨ inRow v j) := fun j hj e => by
        rcases n1 j e with e | e
        · exact .inr (.inr e)
        · omega
      have a1 := Upd.trans u1 u2 fun j hj e => nv1 j hj e
      have a2 := Upd.trans a1 u3 fun j hj e => .inl e
      have a3 := Upd.trans a2 u4 fun j hj e => nv1 j hj (n2 j e)
      have a4 := Upd.trans a3 u5 fun j hj e => nv1 j hj (n2 j e)
      exact Upd.trans a4 u6 fun j hj e => .inl e
    · simp [f3, lc1, l0, l1, tl, sz, wm, wp, cg, -load_ptr]
      exact ⟨v1, H1, M1, m1, w1, u1, fun j hj => (n1 j hj).imp id fun h => by omega, hl1⟩
end
end Go.Proofs.Ytaahkamnpobofaa
