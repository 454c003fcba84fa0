/- jobs: the calls that change how they stand; no condition. -/
import Derived.Test.YtklhioaokogpdaaJobs
namespace Go.Proofs.Ytklhioaokogpdaa
open Go.Ab
theorem stA_cells (x : St) : x.cells = [.int .u8 (x.s : Nat), .int .i64 x.tried, .int .i64 x.badge, .int .i64 x.since, .int .i64 x.code, .bool x.played] := rfl
set_option maxHeartbeats 1000000 in
theorem settle_ev {h : Hp} {k b : Nat} {jv lv : Value} {js : List Jb} {l : List St} (m : JM h k b jv lv js l) :
    EvA Try.prog 78 [.pointer (some ⟨b, 0, none⟩)] (fun r h' => JM h' k b jv lv js (settle js l) ∧ Upd (inRow lv) h h') h := by
  refine EvA.body Try.func78 rfl (by kernel_rfl) (by simp) ?_
  apply Run.ok
  have l0 := m.l0
  have tl := m.tl
  have h24 := m.l24
  simp [l0, tl, -load_ptr]
  refine WpA.loop (fun z fr g => ∃ (n : Nat), z = l.length - n ∧ n ≤ l.length ∧ fr 0 = .pointer (some ⟨b, 0, none⟩) ∧ fr 7 = lv ∧ fr 8 = .int .i64 (l.length : Nat) ∧ fr 9 = .int .i64 (n : Nat) ∧ JM g k b jv lv js (setN js n l) ∧ Upd (inRow lv) h g)
    (k := l.length) ⟨0, by simp, by omega, by simp, by simp, by simp, by simp, m, Upd.refl⟩ ?_
  clear l0 tl
  rintro z fr g ⟨n, rfl, hn, f0, f7, f8, f9, M, u⟩
  apply Run.ok
  by_cases c : n < l.length
  · have c' : (n : Int) < l.length := by omega
    have w1 : IntKind.i64.wrap ((n : Int) + 1) = (n : Int) + 1 := wrap_i64 (by omega) (by omega)
    have hnl : n < (setN js n l).length := by rw [setN_len]; exact c
    have ia := M.ia hnl .i64
    have ld := M.ag hnl
    rw [stA_cells] at ld
    have hN : setN js (n + 1) l = set1 js (setN js n l) n := rfl
    generalize setN js n l = q at M hnl ia ld hN
    have hst : stA q n = (q.getD n St.no).s := rfl
    generalize hx : q.getD n St.no = x at ld hst
    simp [f0, f7, f8, f9, c', ia, ld, cellsOf, spl, -load_ptr]
    have sA : Same g (g ++ [.cells x.cells false none]) := Same.new _
    have hsA : (g ++ [Blk.cells x.cells false none])[g.length]? = some (.cells x.cells false none) := by simp
    rw [stA_cells] at sA hsA
    generalize g ++ [Blk.cells [.int .u8 (x.s : Nat), .int .i64 x.tried, .int .i64 x.badge, .int .i64 x.since, .int .i64 x.code, .bool x.played] false none] = gA at sA hsA ⊢
    have MA := M.same sA
    have uA := Upd.trans u sA (fun _ _ h => h.elim)
    have lk : loadA Try.prog 5 (.pointer (some ⟨g.length, 0, none⟩)) gA = some (.int .u8 (x.s : Nat)) := by rw [load_at hsA (by simp)]; rfl
    have lA := MA.l0
    by_cases e : x.s = 1
    · have e' : ((x.s : Int) == 1) = true := by simp; omega
      simp [lk, e, e', f0, f7, f8, f9, -load_ptr]
      refine WpA.drawnA [0, 1, 2, 3, 4, 5, 6, 7, 8, 9, 10] [[], [], [], [], [], [], [], [5, 6], [], [], [0, 1, 2, 3, 4, 5, 6, 7, 8, 9]] (by kernel_rfl) (by decide +kernel) (by decide +kernel) ?_
      simp [f0, f7, f8, f9, lA, -load_ptr]
      refine after_call (next_ev n hnl MA) ?_
      rintro r g2 ⟨rfl, rfl⟩
      rw [hx]
      have hs1 : set1 js q n = setS q n (nextA (js.getD n Jb.no) q x.played) := by unfold set1; rw [hst, if_pos e, hx]
      generalize nextA (js.getD n Jb.no) q x.played = nx at hs1 ⊢
      obtain ⟨g3, q1, q2, q3⟩ := MA.st0 hnl nx
      simp [f0, f7, f8, f9, lA, ia, q1, w1, -load_ptr, -store_ptr, -roundQ_normal, ↓rq]
      refine stop_intro ⟨l.length - (n + 1), by omega, n + 1, rfl, by omega, by simp [f0], by simp [f7], by simp [f8], by simp, by rw [hN, hs1]; exact q2, Upd.trans uA q3 (fun _ _ h => h)⟩
    · have e' : ((x.s : Int) == 1) = false := by simp; omega
      have hs1 : set1 js q n = q := by unfold set1; rw [hst, if_neg e]
      simp [lk, e, e', f0, f7, f8, f9, w1, -load_ptr, -roundQ_normal, ↓rq]
      refine stop_intro ⟨l.length - (n + 1), by omega, n + 1, rfl, by omega, by simp [f0], by simp [f7], by simp [f8], by simp, by rw [hN, hs1]; exact MA, uA⟩
  · have c' : ¬ (n : Int) < l.length := by omega
    have hn' : n = l.length := by omega
    subst hn'
    simp [f0, f7, f8, f9]
    exact ⟨M, u⟩
theorem jclone_ev {h : Hp} {k : Nat} {lv : Value} {l : List St} (ha : Acc k h 6 lv l.length (l.flatMap St.cells)) (hl : l.length ≤ 24) :
    EvA Try.prog 79 [lv] (fun r h' => Acc h.length h' 6 r l.length (l.flatMap St.cells) ∧ Same h h') h := by
  refine EvA.body Try.func79 rfl (by kernel_rfl) (by simp) ?_
  apply Run.ok
  have hsl := (ha.same (Same.new [.cells [] false none])).sl
  rcases row_nil ha.row with ⟨rfl, hn⟩ | ⟨a, c, rfl⟩
  · have : l = [] := List.eq_nil_of_length_eq_zero hn
    subst this
    simp
    exact ⟨Acc.nil _, Same.refl⟩
  · obtain ⟨v', h', e1, e2, e3, _⟩ := Acc.appendLit (P := Try.prog) (h := h ++ [.cells [] false none]) (z := 6) (k := h.length) (b := h.length) (t := 56) (tx := 56) (e := 63) (by_ := 48) (dx := .slice 63) (Nat.le_refl _) (by simp) (by simp) (by simp) (by simp) rfl hsl.1.2.1 (by rw [stCells_len]) (by omega) (by omega)
    simp [zeros, capO, e1]
    exact ⟨e2, Same.trans (Same.new _) e3⟩
theorem jlist_ev {h : Hp} {k b : Nat} {jv lv : Value} {js : List Jb} {l : List St} (m : JM h k b jv lv js l) :
    EvA Try.prog 31 [.pointer (some ⟨b, 0, none⟩)] (fun r h' => Acc h.length h' 6 r l.length (l.flatMap St.cells) ∧ Same h h') h := by
  refine EvA.body Try.func31 rfl (by kernel_rfl) (by simp) ?_
  apply Run.ok
  have l0 := m.l0
  simp [l0, -load_ptr]
  refine after_call (jclone_ev m.lw m.l24) ?_
  rintro r h' ⟨q1, q2⟩
  simp
  exact ⟨q1, q2⟩
set_option maxHeartbeats 1000000 in
theorem jstart_ev {h : Hp} {k b : Nat} {jv lv : Value} {js : List Jb} {l : List St} (m : JM h k b jv lv js l) (i badge now : Int) (hT : ∀ x ∈ l, x.tried ≤ 5 ∧ -5 ≤ x.tried) :
    EvA Try.prog 37 [.pointer (some ⟨b, 0, none⟩), .int .i64 i, .int .i64 badge, .int .i64 now] (fun r h' => r = .int .i64 (startJ l i badge now).1 ∧ JM h' k b jv lv js (startJ l i badge now).2 ∧ Upd (inRow lv) h h') h := by
  refine EvA.body Try.func37 rfl (by kernel_rfl) (by simp) ?_
  apply Run.ok
  simp
  refine after_call (thereJ_ev i m) ?_
  rintro r h' ⟨rfl, rfl⟩
  by_cases c : i < 0 ∨ (l.length : Int) ≤ i
  · have hs : startJ l i badge now = (1, l) := by unfold startJ; rw [if_pos c]
    rw [if_pos c, hs]
    simp
    exact ⟨m, Upd.refl⟩
  · rw [if_neg c]
    obtain ⟨n, rfl⟩ : ∃ n : Nat, i = (n : Int) := ⟨i.toNat, by omega⟩
    have hn : n < l.length := by omega
    have l0 := m.l0
    have ia := m.ia hn .i64
    have c0 := m.c0 hn
    have c1 := m.c1 hn
    have c5 := m.c5 hn
    have hx : l.getD n St.no ∈ l := by rw [← getD_at l St.no hn]; exact List.getElem_mem _
    have hT' := hT _ hx
    have hst : stA l n = (l.getD n St.no).s := rfl
    unfold startJ
    rw [if_neg c, Int.toNat_natCast]
    generalize l.getD n St.no = x at c1 c5 hT' hst ⊢
    simp [l0, ia, -load_ptr]
    refine after_call (countJ_ev badge 1 _) ?_
    rintro r h2 ⟨rfl, rfl⟩
    by_cases d1 : 1 ≤ badge ∧ badge ≤ 2147483647
    · have e1 : (decide (1 ≤ badge) && decide (badge ≤ 2147483647)) = true := by simp [d1]
      rw [e1]
      simp
      refine after_call (countJ_ev now 0 _) ?_
      rintro r h2 ⟨rfl, rfl⟩
      by_cases d2 : 0 ≤ now ∧ now ≤ 2147483647
      · have e2 : (decide (0 ≤ now) && decide (now ≤ 2147483647)) = true := by simp [d2]
        rw [e2, if_neg (by omega)]
        by_cases d3 : stA l n = 3
        · rw [if_neg (by omega)]
          have d3' : ((stA l n : Int) != 3) = false := by simp; omega
          have w1 : IntKind.i64.wrap (x.tried + 1) = x.tried + 1 := wrap_i64 (by omega) (by omega)
          obtain ⟨g3, q1, q2, q3⟩ := m.sta hn ⟨4, x.tried + 1, badge, now, 0, x.played⟩
          simp only [stA_cells] at q1
          simp [c0, d3', -load_ptr]
          refine WpA.drawnA [0, 1, 2, 3, 4, 5, 6, 7, 8, 9, 10, 11, 12, 13, 14] [[], [], [], [], [], [], [], [], [], [], [], [], [], [], [0, 1, 2, 3, 4, 5, 6, 7, 8, 9, 10, 11, 12, 13]] (by kernel_rfl) (by decide +kernel) (by decide +kernel) ?_
          simp [-store_ptr] at q1
          simp [c1, c5, w1, spl, q1, -load_ptr, -store_ptr]
          exact ⟨q2, q3⟩
        · rw [if_pos d3]
          have d3' : ((stA l n : Int) != 3) = true := by simp; omega
          simp [c0, d3', -load_ptr]
          exact ⟨m, Upd.refl⟩
      · have e2 : (decide (0 ≤ now) && decide (now ≤ 2147483647)) = false := by
          rw [Bool.eq_false_iff]; simp; omega
        rw [e2, if_pos (by omega)]
        simp
        exact ⟨m, Upd.refl⟩
    · have e1 : (decide (1 ≤ badge) && decide (badge ≤ 2147483647)) = false := by
        rw [Bool.eq_false_iff]; simp; omega
      rw [e1, if_pos (by omega)]
      simp
      exact ⟨m, Upd.refl⟩
theorem jruns_ev {h : Hp} {k b : Nat} {jv lv : Value} {js : List Jb} {l : List St} (m : JM h k b jv lv js l) (i badge : Int) :
    EvA Try.prog 123 [.pointer (some ⟨b, 0, none⟩), .int .i64 i, .int .i64 badge] (fun r h' => r = .int .i64 (if i < 0 ∨ (l.length : Int) ≤ i then 1 else if stA l i.toNat ≠ 4 ∨ (l.getD i.toNat St.no).badge ≠ badge then 60 else 0) ∧ Same h h') h := by
  refine EvA.body Try.func123 rfl (by kernel_rfl) (by simp) ?_
  apply Run.ok
  simp
  refine after_call (thereJ_ev i m) ?_
  rintro r h' ⟨rfl, rfl⟩
  by_cases c : i < 0 ∨ (l.length : Int) ≤ i
  · rw [if_pos c, if_pos c]
    simp
    exact Same.refl
  · rw [if_neg c, if_neg c]
    obtain ⟨n, rfl⟩ : ∃ n : Nat, i = (n : Int) := ⟨i.toNat, by omega⟩
    rw [Int.toNat_natCast]
    have hn : n < l.length := by omega
    have l0 := m.l0
    have ia := m.ia hn .i64
    have ld := m.ag hn
    have hst : stA l n = (l.getD n St.no).s := rfl
    generalize l.getD n St.no = x at ld hst ⊢
    rw [stA_cells] at ld
    simp [l0, ia, ld, cellsOf, spl, -load_ptr]
    have sA : Same h' (h' ++ [.cells x.cells false none]) := Same.new _
    have hsA : (h' ++ [Blk.cells x.cells false none])[h'.length]? = some (.cells x.cells false none) := by simp
    rw [stA_cells] at sA hsA
    generalize h' ++ [Blk.cells [.int .u8 (x.s : Nat), .int .i64 x.tried, .int .i64 x.badge, .int .i64 x.since, .int .i64 x.code, .bool x.played] false none] = gA at sA hsA ⊢
    have k0 : loadA Try.prog 5 (.pointer (some ⟨h'.length, 0, none⟩)) gA = some (.int .u8 (x.s : Nat)) := by rw [load_at hsA (by simp)]; rfl
    have k2 : loadA Try.prog 3 (.pointer (some ⟨h'.length, 2, none⟩)) gA = some (.int .i64 x.badge) := by rw [load_at hsA (by simp)]; rfl
    by_cases d1 : x.s = 4
    · have d1' : ((x.s : Int) != 4) = false := by simp; omega
      by_cases d2 : x.badge = badge
      · have d2' : (x.badge != badge) = false := by simp [d2]
        have d3 : ¬ (stA l n ≠ 4 ∨ x.badge ≠ badge) := by omega
        rw [if_neg d3]
        simp [k0, d1', k2, d2', -load_ptr]
        exact sA
      · have d2' : (x.badge != badge) = true := by simpa using d2
        have d3 : stA l n ≠ 4 ∨ x.badge ≠ badge := .inr d2
        rw [if_pos d3]
        simp [k0, d1', k2, d2', -load_ptr]
        exact sA
    · have d1' : ((x.s : Int) != 4) = true := by simp; omega
      have d3 : stA l n ≠ 4 ∨ x.badge ≠ badge := .inl (by omega)
      rw [if_pos d3]
      simp [k0, d1', -load_ptr]
      exact sA
set_option maxHeartbeats 2000000 in
theorem jends_ev {h : Hp} {k b : Nat} {jv lv : Value} {js : List Jb} {l : List St} (m : JM h k b jv lv js l) (i badge : Int) (s : Nat) (num : Int) :
    EvA Try.prog 83 [.pointer (some ⟨b, 0, none⟩), .int .i64 i, .int .i64 badge, .int .u8 (s : Nat), .int .i64 num] (fun r h' => r = .int .i64 (endsJ js l i badge s num).1 ∧ JM h' k b jv lv js (endsJ js l i badge s num).2 ∧ Upd (inRow lv) h h') h := by
  refine EvA.body Try.func83 rfl (by kernel_rfl) (by simp) ?_
  apply Run.ok
  simp
  refine after_call (jruns_ev m i badge) ?_
  rintro r h' ⟨rfl, s0⟩
  have M := m.same s0
  have u0 : Upd (inRow lv) h h' := s0.mono fun _ _ h => h.elim
  unfold endsJ
  by_cases c : i < 0 ∨ (l.length : Int) ≤ i
  · rw [if_pos c, if_pos c]
    simp
    exact ⟨M, u0⟩
  · rw [if_neg c, if_neg c]
    by_cases c2 : stA l i.toNat ≠ 4 ∨ (l.getD i.toNat St.no).badge ≠ badge
    · rw [if_pos c2, if_pos c2]
      simp
      exact ⟨M, u0⟩
    · rw [if_neg c2, if_neg c2]
      clear c2
      obtain ⟨n, rfl⟩ : ∃ n : Nat, i = (n : Int) := ⟨i.toNat, by omega⟩
      rw [Int.toNat_natCast]
      have hn : n < l.length := by omega
      have l0 := M.l0
      have ia := M.ia hn .i64
      have c1 := M.c1 hn
      have c5 := M.c5 hn
      have j0 := M.j0
      have ja := M.ja hn .i64
      have j1 := M.j1 hn
      generalize hxx : l.getD n St.no = x at c1 c5 ⊢
      generalize hyy : js.getD n Jb.no = y at j1 ⊢
      simp [l0, ia, -load_ptr]
      refine WpA.drawnA [0, 1, 2, 3, 4, 5, 6, 7, 8, 9, 10, 11, 12, 13] [[], [], [], [], [], [], [], [], [], [], [], [], [], [0, 1, 2, 3, 4, 5, 6, 7, 8, 9, 10, 11, 12]] (by kernel_rfl) (by decide +kernel) (by decide +kernel) ?_
      have c1t : ∀ t, loadA Try.prog 3 (.pointer (some ⟨rbl lv, rof lv + n * 6 + 1, none⟩)) (h' ++ t) = some (.int .i64 x.tried) := fun t => by rw [← hxx]; exact (M.same (Same.new t)).c1 hn
      have c5t : ∀ t, loadA Try.prog 4 (.pointer (some ⟨rbl lv, rof lv + n * 6 + 5, none⟩)) (h' ++ t) = some (.bool x.played) := fun t => by rw [← hxx]; exact (M.same (Same.new t)).c5 hn
      have j0t : ∀ t, loadA Try.prog 111 (.pointer (some ⟨b, 0, none⟩)) (h' ++ t) = some jv := fun t => (M.same (Same.new t)).j0
      have j1t : ∀ t, loadA Try.prog 3 (.pointer (some ⟨rbl jv, rof jv + n * 4 + 1, none⟩)) (h' ++ t) = some (.int .i64 y.tries) := fun t => by rw [← hyy]; exact (M.same (Same.new t)).j1 hn
      have kB : ∀ a b c d e f : Value, loadA Try.prog 63 (.pointer (some ⟨h'.length, 0, none⟩)) (h' ++ [.cells [a, b, c, d, e, f] false none]) = some (.agg #[a, b, c, d, e, f]) := fun a b c d e f => by simp
      by_cases e6 : s = 6
      · subst e6
        simp [c1, c5, c1t, c5t, cellsOf, spl, -load_ptr]
        refine WpA.drawnA [0, 1, 2, 3, 4, 5, 6, 7, 8, 9, 10, 11, 12] [] (by kernel_rfl) (by decide +kernel) (by decide +kernel) ?_
        by_cases dt : x.tried < y.tries
        · simp [c1t, c5t, j0t, ja, j1t, dt, cellsOf, spl, -load_ptr]
          refine WpA.drawnA [0, 1, 2, 3, 4, 5, 6, 7, 8, 9] [[], [], [], [], [], [], [], [], [], [0, 1, 2, 3, 4, 5, 6, 7, 8]] (by kernel_rfl) (by decide +kernel) (by decide +kernel) ?_
          simp [c1t, c5t, cellsOf, spl, -load_ptr]
          have MB := M.same (Same.new [.cells (⟨3, x.tried, 0, 0, 0, x.played⟩ : St).cells false none])
          obtain ⟨g3, q1, q2, q3⟩ := MB.sta hn ⟨3, x.tried, 0, 0, 0, x.played⟩
          simp only [stA_cells] at q1
          simp [-store_ptr] at q1
          simp [kB, q1, ia, -load_ptr, -store_ptr]
          refine after_call (settle_ev q2) ?_
          rintro r g4 ⟨q4, q5⟩
          have hc : (6 = 6 ∨ 6 = 7) ∧ x.tried < y.tries := by omega
          rw [if_pos hc]
          simp
          exact ⟨q4, Upd.trans (Upd.trans (Upd.trans u0 (Upd.new (S := fun _ => False) _) (fun _ _ h => h.elim)) q3 (fun _ _ h => h)) q5 (fun _ _ h => h)⟩
        · simp [c1t, c5t, j0t, ja, j1t, dt, cellsOf, spl, -load_ptr]
          have MB := M.same (Same.new [.cells (⟨6, x.tried, badge, 0, num, x.played⟩ : St).cells false none])
          obtain ⟨g3, q1, q2, q3⟩ := MB.sta hn ⟨6, x.tried, badge, 0, num, x.played⟩
          simp only [stA_cells] at q1
          simp [-store_ptr] at q1
          simp [kB, q1, ia, -load_ptr, -store_ptr]
          refine after_call (settle_ev q2) ?_
          rintro r g4 ⟨q4, q5⟩
          have hc : ¬ ((6 = 6 ∨ 6 = 7) ∧ x.tried < y.tries) := by omega
          rw [if_neg hc]
          simp
          exact ⟨q4, Upd.trans (Upd.trans (Upd.trans u0 (Upd.new (S := fun _ => False) _) (fun _ _ h => h.elim)) q3 (fun _ _ h => h)) q5 (fun _ _ h => h)⟩
      · by_cases e7 : s = 7
        · subst e7
          simp [c1, c5, c1t, c5t, cellsOf, spl, -load_ptr]
          refine WpA.drawnA [0, 1, 2, 3, 4, 5, 6, 7, 8, 9, 10, 11, 12] [] (by kernel_rfl) (by decide +kernel) (by decide +kernel) ?_
          by_cases dt : x.tried < y.tries
          · simp [c1t, c5t, j0t, ja, j1t, dt, cellsOf, spl, -load_ptr]
            refine WpA.drawnA [0, 1, 2, 3, 4, 5, 6, 7, 8, 9] [[], [], [], [], [], [], [], [], [], [0, 1, 2, 3, 4, 5, 6, 7, 8]] (by kernel_rfl) (by decide +kernel) (by decide +kernel) ?_
            simp [c1t, c5t, cellsOf, spl, -load_ptr]
            have MB := M.same (Same.new [.cells (⟨3, x.tried, 0, 0, 0, x.played⟩ : St).cells false none])
            obtain ⟨g3, q1, q2, q3⟩ := MB.sta hn ⟨3, x.tried, 0, 0, 0, x.played⟩
            simp only [stA_cells] at q1
            simp [-store_ptr] at q1
            simp [kB, q1, ia, -load_ptr, -store_ptr]
            refine after_call (settle_ev q2) ?_
            rintro r g4 ⟨q4, q5⟩
            have hc : (7 = 6 ∨ 7 = 7) ∧ x.tried < y.tries := by omega
            rw [if_pos hc]
            simp
            exact ⟨q4, Upd.trans (Upd.trans (Upd.trans u0 (Upd.new (S := fun _ => False) _) (fun _ _ h => h.elim)) q3 (fun _ _ h => h)) q5 (fun _ _ h => h)⟩
          · simp [c1t, c5t, j0t, ja, j1t, dt, cellsOf, spl, -load_ptr]
            have MB := M.same (Same.new [.cells (⟨7, x.tried, badge, 0, num, x.played⟩ : St).cells false none])
            obtain ⟨g3, q1, q2, q3⟩ := MB.sta hn ⟨7, x.tried, badge, 0, num, x.played⟩
            simp only [stA_cells] at q1
            simp [-store_ptr] at q1
            simp [kB, q1, ia, -load_ptr, -store_ptr]
            refine after_call (settle_ev q2) ?_
            rintro r g4 ⟨q4, q5⟩
            have hc : ¬ ((7 = 6 ∨ 7 = 7) ∧ x.tried < y.tries) := by omega
            rw [if_neg hc]
            simp
            exact ⟨q4, Upd.trans (Upd.trans (Upd.trans u0 (Upd.new (S := fun _ => False) _) (fun _ _ h => h.elim)) q3 (fun _ _ h => h)) q5 (fun _ _ h => h)⟩
        · have e6' : ((s : Int) == 6) = false := by simp; omega
          have e7' : ((s : Int) == 7) = false := by simp; omega
          simp [c1, c5, c1t, c5t, e6', e7', cellsOf, spl, -load_ptr]
          have MB := M.same (Same.new [.cells (⟨s, x.tried, badge, 0, num, x.played⟩ : St).cells false none])
          obtain ⟨g3, q1, q2, q3⟩ := MB.sta hn ⟨s, x.tried, badge, 0, num, x.played⟩
          simp only [stA_cells] at q1
          try simp [-store_ptr] at q1
          simp [kB, q1, ia, -load_ptr, -store_ptr]
          refine after_call (settle_ev q2) ?_
          rintro r g4 ⟨q4, q5⟩
          have hc : ¬ ((s = 6 ∨ s = 7) ∧ x.tried < y.tries) := by omega
          rw [if_neg hc]
          simp
          exact ⟨q4, Upd.trans (Upd.trans (Upd.trans u0 (Upd.new (S := fun _ => False) _) (fun _ _ h => h.elim)) q3 (fun _ _ h => h)) q5 (fun _ _ h => h)⟩
end Go.Proofs.Ytklhioaokogpdaa
