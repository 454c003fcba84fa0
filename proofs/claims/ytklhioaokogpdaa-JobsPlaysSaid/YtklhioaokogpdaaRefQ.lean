/- bastionref25: End, Lose, Stop, Full, Cancel, Play; no condition. -/
import Derived.Test.YtklhioaokogpdaaRefP
namespace Go.Proofs.Ytklhioaokogpdaa
open Go.Ab
section
variable {h h0 h' : Hp} {k c : Nat} {pv rv : Value} {l : List St} {ps : List Pj} {js : List Jb}
set_option maxHeartbeats 2000000 in
set_option maxRecDepth 6000 in
theorem rfinish_ev (m : RJ h k c pv rv l) (p : PlanR h0 pv ps) (s0 : Same h0 h) (hk : h0.length ≤ k) (hm : mayP ps = true) (cv : Conv ps js) (hl : l.length = ps.length) (i badge : Int) (s : Nat) (num : Int) (ag : Bool) (hag : ag = true ↔ (s = 6 ∨ s = 7)) :
    EvA Try.prog 134 [.pointer (some ⟨c, 0, none⟩), .int .i64 i, .int .i64 badge, .int .u8 (s : Nat), .int .i64 num, .bool ag] (DidR h k c pv rv (endsJ js l i badge s num)) h := by
  refine EvA.body Try.func134 rfl (by kernel_rfl) (by simp) ?_
  apply Run.ok
  have l0 := m.l0
  have tl := m.tl
  unfold endsJ
  by_cases c1 : i < 0
  · rw [if_pos (.inl c1)]
    simp [c1]
    exact ⟨rfl, m, Upd.refl⟩
  by_cases c2 : (l.length : Int) ≤ i
  · rw [if_pos (.inr c2)]
    simp [c1, l0, tl, c2, -load_ptr]
    exact ⟨rfl, m, Upd.refl⟩
  rw [if_neg (by omega)]
  obtain ⟨n, rfl⟩ : ∃ n : Nat, i = (n : Int) := ⟨i.toNat, by omega⟩
  rw [Int.toNat_natCast]
  have hn : n < l.length := by omega
  have ia := RS_ia m.t hn
  have ld := RS_ag m.t hn
  have hst : stA l n = (l.getD n St.no).s := rfl
  generalize hxx : l.getD n St.no = x at ld hst ⊢
  rw [stA_cells] at ld
  simp [c1, l0, tl, c2, ia, ld, cellsOf, spl, -load_ptr]
  have sA : Same h (h ++ [.cells x.cells false none]) := Same.new _
  have hsA : (h ++ [Blk.cells x.cells false none])[h.length]? = some (.cells x.cells false none) := by simp
  rw [stA_cells] at sA hsA
  generalize h ++ [Blk.cells [.int .u8 (x.s : Nat), .int .i64 x.tried, .int .i64 x.badge, .int .i64 x.since, .int .i64 x.code, .bool x.played] false none] = gA at sA hsA ⊢
  have MA := m.same sA
  have l0A := MA.l0
  have uA : Upd (inRow rv) h gA := sA.mono fun _ _ h => h.elim
  have k0 : loadA Try.prog 5 (.pointer (some ⟨h.length, 0, none⟩)) gA = some (.int .u8 (x.s : Nat)) := by rw [load_at hsA (by simp)]; rfl
  have k1 : loadA Try.prog 3 (.pointer (some ⟨h.length, 1, none⟩)) gA = some (.int .i64 x.tried) := by rw [load_at hsA (by simp)]; rfl
  have k2 : loadA Try.prog 3 (.pointer (some ⟨h.length, 2, none⟩)) gA = some (.int .i64 x.badge) := by rw [load_at hsA (by simp)]; rfl
  have k5 : loadA Try.prog 4 (.pointer (some ⟨h.length, 5, none⟩)) gA = some (.bool x.played) := by rw [load_at hsA (by simp)]; rfl
  by_cases d1 : x.s = 4
  · have d1' : ((x.s : Int) != 4) = false := by simp; omega
    by_cases d2 : x.badge = badge
    · have d2' : (x.badge != badge) = false := by simp [d2]
      rw [if_neg (by omega)]
      obtain ⟨g3, q1, q2, q3⟩ := MA.sta hn ⟨s, x.tried, badge, 0, num, x.played⟩
      simp only [stA_cells] at q1
      try simp [-store_ptr] at q1
      have hs3 := q3.at hsA (fun hin => by have := (m.rw.above _ hin).2; omega)
      have k13 : loadA Try.prog 3 (.pointer (some ⟨h.length, 1, none⟩)) g3 = some (.int .i64 x.tried) := by rw [load_at hs3 (by simp)]; rfl
      have k53 : loadA Try.prog 4 (.pointer (some ⟨h.length, 5, none⟩)) g3 = some (.bool x.played) := by rw [load_at hs3 (by simp)]; rfl
      have sm3 := MA.sm (s0.trans sA) hk q3
      have p3 := p.same sm3
      have hnp : n < ps.length := by omega
      have iap := PL_ia p3 hnp
      have p6 := PL_6 p3 hnp
      rw [← (cv.2 n hnp).2.1] at p6
      generalize (js.getD n Jb.no).tries = tt at p6 ⊢
      have p03 := q2.p0
      have l03 := q2.l0
      simp [k0, d1', k2, d2', -load_ptr]
      refine WpA.drawnA [0, 1, 2, 3, 4, 5, 6, 7, 8, 9, 10, 11, 12, 13, 14] [[], [], [], [], [], [], [], [], [], [], [], [], [], [], [0, 1, 2, 3, 4, 5, 6, 7, 8, 9, 10, 11, 12, 13]] (by kernel_rfl) (by decide +kernel) (by decide +kernel) ?_
      simp [l0A, ia, k1, k5, q1, cellsOf, spl, -load_ptr, -store_ptr]
      refine WpA.drawnA [0, 1, 2, 3, 4, 5, 6, 7, 8, 9, 10, 11, 12, 13, 14] [] (by kernel_rfl) (by decide +kernel) (by decide +kernel) ?_
      have fin : ∀ {g : Hp} {w : List St} (R : RJ g k c pv rv w) (u : Upd (inRow rv) g3 g), w.length = ps.length → EvA Try.prog 105 [.pointer (some ⟨c, 0, none⟩)] (fun r h' => RJ h' k c pv rv (settle js w) ∧ Upd (inRow rv) h h') g := fun R u hw =>
        EvA.mono (rsettle_ev R p (q2.sm sm3 hk u) hk hm cv hw) fun r g' ⟨a, b⟩ => ⟨a, Upd.trans (Upd.trans (Upd.trans uA q3 (fun _ _ h => h)) u (fun _ _ h => h)) b (fun _ _ h => h)⟩
      cases ag with
      | false =>
        have hno : ¬ ((s = 6 ∨ s = 7) ∧ x.tried < tt) := fun hh => by have := hag.2 hh.1; cases this
        rw [if_neg hno]
        simp
        refine after_call (fin q2 Upd.refl (by simpa using hl)) ?_
        rintro r g4 ⟨q4, q5⟩
        simp
        exact ⟨rfl, q4, q5⟩
      | true =>
        have h67 := hag.1 rfl
        by_cases dt : x.tried < tt
        · rw [if_pos ⟨h67, dt⟩]
          have hn3 : n < (l.set n (⟨s, x.tried, badge, 0, num, x.played⟩ : St)).length := by simpa using hn
          obtain ⟨g4, a1, a2, a3⟩ := q2.sta hn3 ⟨3, x.tried, 0, 0, 0, x.played⟩
          rw [List.set_set] at a2
          simp only [stA_cells] at a1
          simp [-store_ptr] at a1
          simp [k13, p03, iap, p6, dt, -load_ptr]
          refine WpA.drawnA [0, 1, 2, 3, 4, 5, 6, 7, 8, 9, 10, 11] [[], [], [], [], [], [], [], [], [], [], [], [0, 1, 2, 3, 4, 5, 6, 7, 8, 9, 10]] (by kernel_rfl) (by decide +kernel) (by decide +kernel) ?_
          simp [l03, ia, k13, k53, a1, zeros, cellsOf, spl, -load_ptr, -store_ptr]
          refine after_call (fin a2 a3 (by simpa using hl)) ?_
          rintro r g5 ⟨q4, q5⟩
          simp
          exact ⟨rfl, q4, q5⟩
        · rw [if_neg (fun hh => dt hh.2)]
          simp [k13, p03, iap, p6, dt, -load_ptr]
          refine after_call (fin q2 Upd.refl (by simpa using hl)) ?_
          rintro r g4 ⟨q4, q5⟩
          simp
          exact ⟨rfl, q4, q5⟩
    · have d2' : (x.badge != badge) = true := by simpa using d2
      rw [if_pos (.inr d2)]
      simp [k0, d1', k2, d2', -load_ptr]
      exact ⟨rfl, MA, uA⟩
  · have d1' : ((x.s : Int) != 4) = true := by simp; omega
    rw [if_pos (.inl (by omega))]
    simp [k0, d1', -load_ptr]
    exact ⟨rfl, MA, uA⟩
section
variable (m : RJ h k c pv rv l) (p : PlanR h0 pv ps) (s0 : Same h0 h) (hk : h0.length ≤ k) (hm : mayP ps = true) (cv : Conv ps js) (hl : l.length = ps.length)
include m p s0 hk hm cv hl
theorem rend_ev (i badge num : Int) :
    EvA Try.prog 107 [.pointer (some ⟨c, 0, none⟩), .int .i64 i, .int .i64 badge, .int .i64 num] (DidR h k c pv rv (endJ js l i badge num)) h := by
  refine EvA.body Try.func107 rfl (by kernel_rfl) (by simp) ?_
  apply Run.ok
  unfold endJ
  by_cases c1 : num < 0
  · have : (if i < 0 ∨ (l.length : Int) ≤ i then ((1 : Int), l) else if num < 0 ∨ 999 < num then (1, l) else if num = 0 then endsJ js l i badge 5 0 else endsJ js l i badge 6 num) = (1, l) := by
      rw [if_pos (show num < 0 ∨ 999 < num from .inl c1)]; split <;> rfl
    rw [this]
    simp [c1]
    exact ⟨rfl, m, Upd.refl⟩
  by_cases c2 : 999 < num
  · have : (if i < 0 ∨ (l.length : Int) ≤ i then ((1 : Int), l) else if num < 0 ∨ 999 < num then (1, l) else if num = 0 then endsJ js l i badge 5 0 else endsJ js l i badge 6 num) = (1, l) := by
      rw [if_pos (show num < 0 ∨ 999 < num from .inr c2)]; split <;> rfl
    rw [this]
    simp [c1, c2]
    exact ⟨rfl, m, Upd.refl⟩
  have hout : ∀ s a, (i < 0 ∨ (l.length : Int) ≤ i) → endsJ js l i badge s a = (1, l) := fun s a hh => by unfold endsJ; rw [if_pos hh]
  rw [if_neg (show ¬ (num < 0 ∨ 999 < num) by omega)]
  by_cases c3 : num = 0
  · subst c3
    have : (if i < 0 ∨ (l.length : Int) ≤ i then ((1 : Int), l) else if (0 : Int) = 0 then endsJ js l i badge 5 0 else endsJ js l i badge 6 0) = endsJ js l i badge 5 0 := by
      split
      · rename_i hh; rw [hout _ _ hh]
      · rfl
    rw [this]
    simp
    refine after_call (rfinish_ev m p s0 hk hm cv hl i badge 5 0 false (by simp)) ?_
    rintro r g ⟨rfl, a, b⟩
    simp
    exact ⟨rfl, a, b⟩
  · have : (if i < 0 ∨ (l.length : Int) ≤ i then ((1 : Int), l) else if num = 0 then endsJ js l i badge 5 0 else endsJ js l i badge 6 num) = endsJ js l i badge 6 num := by
      split
      · rename_i hh; rw [hout _ _ hh]
      · first | rfl | rw [if_neg c3]
    rw [this]
    have c3' : (num == 0) = false := by simpa using c3
    simp [c1, c2, c3']
    refine after_call (rfinish_ev m p s0 hk hm cv hl i badge 6 num true (by simp)) ?_
    rintro r g ⟨rfl, a, b⟩
    simp
    exact ⟨rfl, a, b⟩
theorem rlose_ev (i badge : Int) :
    EvA Try.prog 108 [.pointer (some ⟨c, 0, none⟩), .int .i64 i, .int .i64 badge] (DidR h k c pv rv (endsJ js l i badge 7 0)) h := by
  refine EvA.body Try.func108 rfl (by kernel_rfl) (by simp) ?_
  apply Run.ok
  simp
  refine after_call (rfinish_ev m p s0 hk hm cv hl i badge 7 0 true (by simp)) ?_
  rintro r g ⟨rfl, a, b⟩
  simp
  exact ⟨rfl, a, b⟩
theorem rstop_ev (i badge : Int) :
    EvA Try.prog 109 [.pointer (some ⟨c, 0, none⟩), .int .i64 i, .int .i64 badge] (DidR h k c pv rv (endsJ js l i badge 8 0)) h := by
  refine EvA.body Try.func109 rfl (by kernel_rfl) (by simp) ?_
  apply Run.ok
  simp
  refine after_call (rfinish_ev m p s0 hk hm cv hl i badge 8 0 false (by simp)) ?_
  rintro r g ⟨rfl, a, b⟩
  simp
  exact ⟨rfl, a, b⟩
theorem rfull_ev (i badge : Int) :
    EvA Try.prog 110 [.pointer (some ⟨c, 0, none⟩), .int .i64 i, .int .i64 badge] (DidR h k c pv rv (endsJ js l i badge 11 0)) h := by
  refine EvA.body Try.func110 rfl (by kernel_rfl) (by simp) ?_
  apply Run.ok
  simp
  refine after_call (rfinish_ev m p s0 hk hm cv hl i badge 11 0 false (by simp)) ?_
  rintro r g ⟨rfl, a, b⟩
  simp
  exact ⟨rfl, a, b⟩
set_option maxHeartbeats 1000000 in
theorem rcancel_ev (i : Int) :
    EvA Try.prog 111 [.pointer (some ⟨c, 0, none⟩), .int .i64 i] (DidR h k c pv rv (cancelJ js l i)) h := by
  refine EvA.body Try.func111 rfl (by kernel_rfl) (by simp) ?_
  apply Run.ok
  have l0 := m.l0
  have tl := m.tl
  unfold cancelJ
  by_cases c1 : i < 0
  · rw [if_pos (.inl c1)]
    simp [c1]
    exact ⟨rfl, m, Upd.refl⟩
  by_cases c2 : (l.length : Int) ≤ i
  · rw [if_pos (.inr c2)]
    simp [c1, l0, tl, c2, -load_ptr]
    exact ⟨rfl, m, Upd.refl⟩
  rw [if_neg (by omega)]
  obtain ⟨n, rfl⟩ : ∃ n : Nat, i = (n : Int) := ⟨i.toNat, by omega⟩
  rw [Int.toNat_natCast]
  have hn : n < l.length := by omega
  have ia := RS_ia m.t hn
  have ld := RS_ag m.t hn
  have hst : stA l n = (l.getD n St.no).s := rfl
  generalize hxx : l.getD n St.no = x at ld hst ⊢
  rw [stA_cells] at ld
  simp [c1, l0, tl, c2, ia, ld, cellsOf, spl, -load_ptr]
  have sA : Same h (h ++ [.cells x.cells false none]) := Same.new _
  have hsA : (h ++ [Blk.cells x.cells false none])[h.length]? = some (.cells x.cells false none) := by simp
  rw [stA_cells] at sA hsA
  generalize h ++ [Blk.cells [.int .u8 (x.s : Nat), .int .i64 x.tried, .int .i64 x.badge, .int .i64 x.since, .int .i64 x.code, .bool x.played] false none] = gA at sA hsA ⊢
  have MA := m.same sA
  have l0A := MA.l0
  have uA : Upd (inRow rv) h gA := sA.mono fun _ _ h => h.elim
  have k0 : loadA Try.prog 5 (.pointer (some ⟨h.length, 0, none⟩)) gA = some (.int .u8 (x.s : Nat)) := by rw [load_at hsA (by simp)]; rfl
  have k1 : loadA Try.prog 3 (.pointer (some ⟨h.length, 1, none⟩)) gA = some (.int .i64 x.tried) := by rw [load_at hsA (by simp)]; rfl
  have k5 : loadA Try.prog 4 (.pointer (some ⟨h.length, 5, none⟩)) gA = some (.bool x.played) := by rw [load_at hsA (by simp)]; rfl
  simp [k0, -load_ptr]
  refine after_call (rended_ev x.s _) ?_
  rintro r g2 ⟨rfl, rfl⟩
  rw [hst]
  by_cases d : endS x.s = true
  · rw [if_pos d, d]
    simp
    exact ⟨rfl, MA, uA⟩
  · rw [if_neg d]
    have d' : endS x.s = false := by simpa using d
    rw [d']
    obtain ⟨g3, q1, q2, q3⟩ := MA.sta hn ⟨9, x.tried, 0, 0, 0, x.played⟩
    simp only [stA_cells] at q1
    simp [-store_ptr] at q1
    have sm3 := MA.sm (s0.trans sA) hk q3
    simp
    refine WpA.drawnA [0, 1, 2, 3, 4, 5, 6, 7, 8, 9, 10, 11] [[], [], [], [], [], [], [], [], [], [], [], [0, 1, 2, 3, 4, 5, 6, 7, 8, 9, 10]] (by kernel_rfl) (by decide +kernel) (by decide +kernel) ?_
    simp [l0A, ia, k1, k5, q1, zeros, cellsOf, spl, -load_ptr, -store_ptr]
    refine after_call (rsettle_ev q2 p sm3 hk hm cv (by simpa using hl)) ?_
    rintro r g4 ⟨q4, q5⟩
    simp
    exact ⟨rfl, q4, Upd.trans (Upd.trans uA q3 (fun _ _ h => h)) q5 (fun _ _ h => h)⟩
end
theorem rplay_ev (m : RJ h k c pv rv l) (wf : WfJ js) (inv : Inv js l) (i : Int) :
    EvA Try.prog 112 [.pointer (some ⟨c, 0, none⟩), .int .i64 i] (DidR h k c pv rv (playJ js l i)) h := by
  refine EvA.body Try.func112 rfl (by kernel_rfl) (by simp) ?_
  apply Run.ok
  have l0 := m.l0
  have tl := m.tl
  by_cases c1 : i < 0
  · have : playJ js l i = (1, l) := by unfold playJ; rw [if_pos (.inl c1)]
    rw [this]
    simp [c1]
    exact ⟨rfl, m, Upd.refl⟩
  by_cases c2 : (l.length : Int) ≤ i
  · have : playJ js l i = (1, l) := by unfold playJ; rw [if_pos (.inr c2)]
    rw [this]
    simp [c1, l0, tl, c2, -load_ptr]
    exact ⟨rfl, m, Upd.refl⟩
  obtain ⟨n, rfl⟩ : ∃ n : Nat, i = (n : Int) := ⟨i.toNat, by omega⟩
  have hn : n < l.length := by omega
  have ia := RS_ia m.t hn
  have x0 := m.c0 hn
  by_cases d : stA l n = 2
  · have d' : ((stA l n : Int) != 2) = false := by simp; omega
    rw [playJ_eq wf inv hn d]
    obtain ⟨g1, a1, m1, u1⟩ := m.stj hn (j := 5) (t := 4) (x := .bool true) { l.getD n St.no with played := true } (by omega) (by simp) rfl rfl
    have hn1 : n < (l.set n { l.getD n St.no with played := true }).length := by simpa using hn
    have l01 := m1.l0
    obtain ⟨g2, a2, m2, u2⟩ := m1.st0 hn1 3
    have he : setS (l.set n { l.getD n St.no with played := true }) n 3 = l.set n ⟨3, (l.getD n St.no).tried, (l.getD n St.no).badge, (l.getD n St.no).since, (l.getD n St.no).code, true⟩ := by
      unfold setS
      rw [List.set_set, getD_set l _ hn, if_pos rfl]; rfl
    rw [he] at m2
    simp [-store_ptr] at a2
    simp [c1, l0, tl, c2, ia, x0, d', a1, l01, a2, -load_ptr, -store_ptr]
    exact ⟨rfl, m2, Upd.trans u1 u2 (fun _ _ h => h)⟩
  · have d' : ((stA l n : Int) != 2) = true := by simp; omega
    have : playJ js l (n : Int) = (50, l) := by unfold playJ; rw [if_neg (by omega), Int.toNat_natCast, if_pos d]
    rw [this]
    simp [c1, l0, tl, c2, ia, x0, d', -load_ptr]
    exact ⟨rfl, m, Upd.refl⟩
end
end Go.Proofs.Ytklhioaokogpdaa
