/- bastionref25: whether a job could stand as it does; no condition. -/
import Derived.Test.YtklhioaokogpdaaRefK
namespace Go.Proofs.Ytklhioaokogpdaa
open Go.Ab
theorem rst_eq (x y : St) (o q : Operand) : binA Try.prog .eql 124 o q (.agg #[.int .u8 (x.s : Nat), .int .i64 x.tried, .int .i64 x.badge, .int .i64 x.since, .int .i64 x.code, .bool x.played]) (.agg #[.int .u8 (y.s : Nat), .int .i64 y.tried, .int .i64 y.badge, .int .i64 y.since, .int .i64 y.code, .bool y.played]) = some (.bool (stEq x y)) := by
  obtain ⟨s, t, b, si, c, p⟩ := x
  obtain ⟨s', t', b', si', c', p'⟩ := y
  simp only [stEq]
  have hg : (Try.prog).eqGuardType (Try.prog).depth 124 = false := by kernel_rfl
  have hh : (Try.prog).stoodInHeld 124 = false := by kernel_rfl
  have hi : ∀ n m : Int, eqA Try.prog 9999 3 (.int .i64 n) (.int .i64 m) = some (n == m) := fun n m => by
    have : eqA Try.prog (9998 + 1) 3 (.int .i64 n) (.int .i64 m) = some (n == m) := by simp [eqA]
    exact this
  have hu : ∀ n m : Int, eqA Try.prog 9999 5 (.int .u8 n) (.int .u8 m) = some (n == m) := fun n m => by
    have : eqA Try.prog (9998 + 1) 5 (.int .u8 n) (.int .u8 m) = some (n == m) := by simp [eqA]
    exact this
  have hb : eqA Try.prog 9999 4 (.bool p) (.bool p') = some (p == p') := by
    have : eqA Try.prog (9998 + 1) 4 (.bool p) (.bool p') = some (p == p') := by simp [eqA]
    exact this
  have a0 : ∀ a b c d e f : Value, partA Try.prog 5 [a, b, c, d, e, f] 0 = some a := fun a b c d e f => by simp [partA]
  have a1 : ∀ a b c d e f : Value, partA Try.prog 3 [a, b, c, d, e, f] 1 = some b := fun a b c d e f => by simp [partA]
  have a2 : ∀ a b c d e f : Value, partA Try.prog 3 [a, b, c, d, e, f] 2 = some c := fun a b c d e f => by simp [partA]
  have a3 : ∀ a b c d e f : Value, partA Try.prog 3 [a, b, c, d, e, f] 3 = some d := fun a b c d e f => by simp [partA]
  have a4 : ∀ a b c d e f : Value, partA Try.prog 3 [a, b, c, d, e, f] 4 = some e := fun a b c d e f => by simp [partA]
  have a5 : ∀ a b c d e f : Value, partA Try.prog 4 [a, b, c, d, e, f] 5 = some f := fun a b c d e f => by simp [partA]
  have h3 : eqA Try.prog (9999 + 1) 124 (.agg #[.int .u8 (s : Nat), .int .i64 t, .int .i64 b, .int .i64 si, .int .i64 c, .bool p]) (.agg #[.int .u8 (s' : Nat), .int .i64 t', .int .i64 b', .int .i64 si', .int .i64 c', .bool p']) = some (((s : Int) == (s' : Int)) && (t == t') && (b == b') && (si == si') && (c == c') && (p == p')) := by
    unfold eqA
    generalize hE1 : ((s : Int) == (s' : Int)) = E1
    generalize hE2 : (t == t') = E2
    generalize hE3 : (b == b') = E3
    generalize hE4 : (si == si') = E4
    generalize hE5 : (c == c') = E5
    generalize hE6 : (p == p') = E6
    rw [hE6] at hb
    cases E1 <;> cases E2 <;> cases E3 <;> cases E4 <;> cases E5 <;> cases E6 <;> simp [hh, eqFields, hi, hu, hb, a0, a1, a2, a3, a4, a5, hE1, hE2, hE3, hE4, hE5]
  have h4 : eqA Try.prog 10000 124 (.agg #[.int .u8 (s : Nat), .int .i64 t, .int .i64 b, .int .i64 si, .int .i64 c, .bool p]) (.agg #[.int .u8 (s' : Nat), .int .i64 t', .int .i64 b', .int .i64 si', .int .i64 c', .bool p']) = some (((s : Int) == (s' : Int)) && (t == t') && (b == b') && (si == si') && (c == c') && (p == p')) := h3
  simp [binA, guardA, hg, h4]
set_option maxHeartbeats 4000000 in
set_option maxRecDepth 6000 in
theorem rcould_ev {h : Hp} {k c : Nat} {pv rv : Value} {js : List Jb} {l : List St} {ps : List Pj} (m : RJ h k c pv rv l) (p : PlanR h pv ps) (hm : mayP ps = true) (cv : Conv ps js) (hl : l.length = ps.length) (i : Nat) (hi : i < ps.length) (hcode : 0 ≤ (l.getD i St.no).code) :
    EvA Try.prog 95 [.pointer (some ⟨c, 0, none⟩), .int .i64 (i : Nat)] (fun r h' => r = .bool (couldP (js.getD i Jb.no) l (l.getD i St.no)) ∧ Same h h') h := by
  refine EvA.body Try.func95 rfl (by kernel_rfl) (by simp) ?_
  apply Run.ok
  have hil : i < l.length := by omega
  have l0 := m.l0
  have ia := RS_ia m.t hil
  have ag := RS_ag m.t hil
  have p0t : ∀ t, loadA Try.prog 48 (.pointer (some ⟨c, 0, none⟩)) (h ++ t) = some pv := fun t => (m.same (Same.new t)).p0
  have pia := PL_ia p hi
  have pagt : ∀ t, loadA Try.prog 67 (.pointer (some ⟨rbl pv, rof pv + i * 9, none⟩)) (h ++ t) = some (.agg ps[i].cells.toArray) := fun t => by
    rw [(p.same (Same.new t)).row.agg (P := Try.prog) (e := 67) (by simp) (by simp) hi]
  have hone := p.one _ (List.getElem_mem hi)
  have hty := (cv.2 i hi).2.1
  have hmy := (cv.2 i hi).2.2.2
  obtain ⟨res, hres⟩ : ∃ res, res = couldP (js.getD i Jb.no) l (l.getD i St.no) := ⟨_, rfl⟩
  rw [← hres]
  have hps := fun g (s : Same h g) => rpassed_ev (m.same s) (p.same s) hm cv hl i hi
  have hst := fun g (s : Same h g) => rsettled_ev (m.same s) (p.same s) hm cv hl i hi false
  obtain ⟨y, hy⟩ : ∃ y, y = js.getD i Jb.no := ⟨_, rfl⟩
  obtain ⟨x, hx⟩ : ∃ x, x = l.getD i St.no := ⟨_, rfl⟩
  rw [← hy, ← hx] at hres
  rw [← hy] at hty hmy
  simp only [← hy] at hps hst
  rw [← hx] at ag hcode
  rw [stA_cells] at ag
  generalize ps[i] = yp at pagt hone hty hmy
  obtain ⟨c0, nv, c2, c3, c4, c5, needs, tries, limit, manual⟩ := yp
  simp only at hty hmy
  simp only [Pj.cells] at pagt hone
  simp only [List.all_cons, List.all_nil, Bool.and_eq_true, Bool.and_true] at hone
  obtain ⟨o0, o1, o2, o3, o4, o5, _, _, _⟩ := hone
  simp [l0, ia, ag, p0t, pia, pagt, cellsOf, spl, o0, o1, o2, o3, o4, o5, -load_ptr, -Run_branch]
  have s0 : Same h (h ++ [.cells [.int .u8 (x.s : Nat), .int .i64 x.tried, .int .i64 x.badge, .int .i64 x.since, .int .i64 x.code, .bool x.played] false none, .cells [c0, nv, c2, c3, c4, c5, .int .i64 tries, .int .i64 limit, .bool manual] false none]) := Same.new _
  have hX : (h ++ [Blk.cells [.int .u8 (x.s : Nat), .int .i64 x.tried, .int .i64 x.badge, .int .i64 x.since, .int .i64 x.code, .bool x.played] false none, .cells [c0, nv, c2, c3, c4, c5, .int .i64 tries, .int .i64 limit, .bool manual] false none])[h.length]? = some (.cells [.int .u8 (x.s : Nat), .int .i64 x.tried, .int .i64 x.badge, .int .i64 x.since, .int .i64 x.code, .bool x.played] false none) := by simp
  have hY : (h ++ [Blk.cells [.int .u8 (x.s : Nat), .int .i64 x.tried, .int .i64 x.badge, .int .i64 x.since, .int .i64 x.code, .bool x.played] false none, .cells [c0, nv, c2, c3, c4, c5, .int .i64 tries, .int .i64 limit, .bool manual] false none])[h.length + 1]? = some (.cells [c0, nv, c2, c3, c4, c5, .int .i64 tries, .int .i64 limit, .bool manual] false none) := by simp
  generalize h ++ [Blk.cells [.int .u8 (x.s : Nat), .int .i64 x.tried, .int .i64 x.badge, .int .i64 x.since, .int .i64 x.code, .bool x.played] false none, .cells [c0, nv, c2, c3, c4, c5, .int .i64 tries, .int .i64 limit, .bool manual] false none] = g0 at s0 hX hY ⊢
  obtain ⟨A, hA⟩ : ∃ A, A = passA y l := ⟨_, rfl⟩
  obtain ⟨MR, hMR⟩ : ∃ MR, MR = mayRunB y l x := ⟨_, rfl⟩
  obtain ⟨R, hR⟩ : ∃ R, R = ranB y l x := ⟨_, rfl⟩
  obtain ⟨B, hB⟩ : ∃ B, B = decide (x.s = 1 ∨ x.s = 2 ∨ x.s = 10) := ⟨_, rfl⟩
  have hMR' : MR = (A && (!manual || x.played)) := by rw [hMR, hA, ← hmy]; rfl
  have hR' : R = (MR && decide (1 ≤ x.tried) && decide (1 ≤ x.badge)) := by rw [hR, hMR]; rfl
  simp only [← hA] at hps
  have x0 : loadA Try.prog 5 (.pointer (some ⟨h.length, 0, none⟩)) g0 = some (.int .u8 (x.s : Nat)) := by rw [load_at hX (by simp)]; rfl
  have x1 : loadA Try.prog 3 (.pointer (some ⟨h.length, 1, none⟩)) g0 = some (.int .i64 x.tried) := by rw [load_at hX (by simp)]; rfl
  have x2 : loadA Try.prog 3 (.pointer (some ⟨h.length, 2, none⟩)) g0 = some (.int .i64 x.badge) := by rw [load_at hX (by simp)]; rfl
  have x3 : loadA Try.prog 3 (.pointer (some ⟨h.length, 3, none⟩)) g0 = some (.int .i64 x.since) := by rw [load_at hX (by simp)]; rfl
  have x4 : loadA Try.prog 3 (.pointer (some ⟨h.length, 4, none⟩)) g0 = some (.int .i64 x.code) := by rw [load_at hX (by simp)]; rfl
  have x5 : loadA Try.prog 4 (.pointer (some ⟨h.length, 5, none⟩)) g0 = some (.bool x.played) := by rw [load_at hX (by simp)]; rfl
  have xa : loadA Try.prog 124 (.pointer (some ⟨h.length, 0, none⟩)) g0 = some (.agg #[.int .u8 (x.s : Nat), .int .i64 x.tried, .int .i64 x.badge, .int .i64 x.since, .int .i64 x.code, .bool x.played]) := by simp [hX]
  have y6 : loadA Try.prog 3 (.pointer (some ⟨h.length + 1, 6, none⟩)) g0 = some (.int .i64 tries) := by rw [load_at hY (by simp)]; rfl
  have y8 : loadA Try.prog 4 (.pointer (some ⟨h.length + 1, 8, none⟩)) g0 = some (.bool manual) := by rw [load_at hY (by simp)]; rfl
  apply cutRun (F := fun fr => fr 0 = .pointer (some ⟨c, 0, none⟩) ∧ fr 1 = .int .i64 (i : Nat) ∧ fr 5 = .pointer (some ⟨h.length, 0, none⟩) ∧ fr 6 = .pointer (some ⟨h.length + 1, 0, none⟩) ∧ fr 7 = .bool MR ∧ fr 8 = .bool R ∧ fr 73 = .bool B ∧ ¬ ((x.played = true ∧ manual = false) ∨ tries < x.tried))
    (g := g0)
  · intro key
    by_cases hneg : (x.played = true ∧ manual = false) ∨ tries < x.tried
    · have hr : res = false := by rw [hres]; unfold couldP; rw [hmy, hty, if_pos hneg]
      rw [hr]
      by_cases hT : tries < x.tried
      · simp [x1, y6, hT, -load_ptr]
        exact s0
      · have h1 : x.played = true ∧ manual = false := by rcases hneg with h1 | h1; exact h1; exact absurd h1 hT
        simp [x1, x5, y6, y8, hT, h1.1, h1.2, -load_ptr]
        exact s0
    · have hT : ¬ tries < x.tried := fun h => hneg (.inr h)
      have h3 : (x.played = true ∧ manual = true) ∨ (x.played = false ∧ manual = true) ∨ (x.played = false ∧ manual = false) := by
        rcases Bool.eq_false_or_eq_true x.played with hp | hp <;> rcases Bool.eq_false_or_eq_true manual with hm | hm
        · exact .inl ⟨hp, hm⟩
        · exact absurd (Or.inl ⟨hp, hm⟩) hneg
        · exact .inr (.inl ⟨hp, hm⟩)
        · exact .inr (.inr ⟨hp, hm⟩)
      rcases h3 with ⟨hp, hmn⟩ | ⟨hp, hmn⟩ | ⟨hp, hmn⟩
      all_goals
        simp [x1, x5, y6, y8, hT, hp, hmn, -load_ptr, -Run_branch]
        rw [Run_branch]
        simp [-load_ptr, -Run_branch]
        refine after_call (hps g0 s0) ?_
        rintro r g1 ⟨rfl, rfl⟩
        have hMR2 := hMR'
        rw [hp, hmn] at hMR2
        rcases Bool.eq_false_or_eq_true A with hA2 | hA2
      all_goals
        by_cases t1 : 1 ≤ x.tried
      all_goals
        by_cases b1 : 1 ≤ x.badge
      all_goals
        have hss : (((x.s : Int) == 1) = true ∧ ((x.s : Int) == 2) = false ∧ ((x.s : Int) == 10) = false ∧ B = true) ∨ (((x.s : Int) == 1) = false ∧ ((x.s : Int) == 2) = true ∧ ((x.s : Int) == 10) = false ∧ B = true) ∨
            (((x.s : Int) == 1) = false ∧ ((x.s : Int) == 2) = false ∧ ((x.s : Int) == 10) = true ∧ B = true) ∨ (((x.s : Int) == 1) = false ∧ ((x.s : Int) == 2) = false ∧ ((x.s : Int) == 10) = false ∧ B = false) := by
          simp only [beq_iff_eq, beq_eq_false_iff_ne]
          rcases Decidable.em (x.s = 1 ∨ x.s = 2 ∨ x.s = 10) with h1 | h1
          · rw [decide_eq_true h1] at hB
            simp only [hB]; simp; omega
          · rw [decide_eq_false h1] at hB
            simp only [hB]; simp; omega
        have hR2 := hR'
        rw [hMR2] at hR2
        simp only [hA2, Bool.true_and, Bool.false_and, Bool.not_true, Bool.not_false, Bool.or_false, Bool.or_true, Bool.false_or, Bool.true_or, t1, b1, decide_true, decide_false, Bool.and_true, Bool.and_false] at hMR2 hR2
        rcases hss with ⟨e1, e2, e10, hB2⟩ | ⟨e1, e2, e10, hB2⟩ | ⟨e1, e2, e10, hB2⟩ | ⟨e1, e2, e10, hB2⟩
      all_goals
        simp [x0, x1, x2, x5, y8, hA2, hp, hmn, hT, t1, b1, e1, e2, e10, -load_ptr, -Run_branch]
        refine key _ ?_
        exact ⟨by simp, by simp, by simp, by simp, by simp [hMR2], by simp [hR2], by simp [hB2], hneg⟩
  · rintro fr ⟨f0, f1, f5, f6, f7, f8, f73, hneg⟩
    have hneg' : ¬ ((x.played = true ∧ y.manual = false) ∨ y.tries < x.tried) := by rw [hmy, hty]; exact hneg
    have q1 := fun o q => rst_eq x ⟨nextA y l false, 0, 0, 0, 0, false⟩ o q
    simp only at q1
    rcases Bool.eq_false_or_eq_true B with hB2 | hB2
    · have hs3 : x.s = 1 ∨ x.s = 2 ∨ x.s = 10 := by rw [hB2] at hB; simpa using hB.symm
      have hr : res = stEq x ⟨nextA y l false, 0, 0, 0, 0, false⟩ := by rw [hres]; unfold couldP; rw [if_neg hneg', if_pos hs3]
      rw [hr]
      simp [f0, f1, f5, f6, f7, f8, f73, hB2, -load_ptr]
      refine WpA.drawnA [0, 1, 2, 3, 4, 5, 6] [[], [], [], [1, 2]] (by kernel_rfl) (by decide +kernel) (by decide +kernel) ?_
      simp [f0, f1, f5, xa, -load_ptr]
      refine after_call (hst g0 s0) ?_
      rintro r g1 ⟨rfl, rfl⟩
      simp [f0, f1, f5, xa, q1, spl, -load_ptr]
      exact s0
    have hs3 : ¬ (x.s = 1 ∨ x.s = 2 ∨ x.s = 10) := by rw [hB2] at hB; simpa using hB.symm
    have hss : x.s = 3 ∨ x.s = 4 ∨ x.s = 5 ∨ x.s = 8 ∨ x.s = 11 ∨ x.s = 6 ∨ x.s = 7 ∨ x.s = 9 ∨ (¬ x.s = 3 ∧ ¬ x.s = 4 ∧ ¬ x.s = 5 ∧ ¬ x.s = 6 ∧ ¬ x.s = 7 ∧ ¬ x.s = 8 ∧ ¬ x.s = 9 ∧ ¬ x.s = 11) := by omega
    have hb0 : decide (x.badge = 0) = (x.badge == 0) := by rw [Bool.eq_iff_iff]; simp
    have hsi0 : decide (x.since = 0) = (x.since == 0) := by rw [Bool.eq_iff_iff]; simp
    have hc0 : decide (x.code = 0) = (x.code == 0) := by rw [Bool.eq_iff_iff]; simp
    have ht0 : decide (x.tried = 0) = (x.tried == 0) := by rw [Bool.eq_iff_iff]; simp
    have htt : decide (x.tried = y.tries) = (x.tried == tries) := by rw [hty, Bool.eq_iff_iff]; simp
    rcases hss with hz | hz | hz | hz | hz | hz | hz | hz | ⟨d3, d4, d5, d6, d7, d8, d9, d11⟩
    · have e3 : ((x.s : Int) == 3) = true := by simp; omega
      have hr : res = (MR && decide (x.tried < tries) && (x.badge == 0) && (x.since == 0) && (x.code == 0)) := by
        rw [hres]; unfold couldP; rw [if_neg hneg', if_neg (by omega), if_pos (by omega)]
        rw [← hMR, hb0, hsi0, hc0, hty]
      rw [hr]
      rcases Bool.eq_false_or_eq_true (MR) with h1 | h1 <;> rcases Bool.eq_false_or_eq_true (x.badge == 0) with h3 | h3 <;> rcases Bool.eq_false_or_eq_true (x.since == 0) with h4 | h4 <;> rcases Decidable.em (x.tried < tries) with h2 | h2
      all_goals
        simp [f0, f1, f5, f6, f7, f8, f73, hB2, e3, x0, x1, x2, x3, x4, y6, h1, h2, h3, h4, -load_ptr]
        exact s0
    · have e3 : ((x.s : Int) == 3) = false := by simp; omega
      have e4 : ((x.s : Int) == 4) = true := by simp; omega
      have hr : res = (R && (x.code == 0)) := by
        rw [hres]; unfold couldP; rw [if_neg hneg', if_neg (by omega), if_neg (by omega), if_pos (by omega)]
        rw [← hR, hc0]
      rw [hr]
      rcases Bool.eq_false_or_eq_true (R) with h1 | h1
      all_goals
        simp [f0, f1, f5, f6, f7, f8, f73, hB2, e3, e4, x0, x4, h1, -load_ptr]
        exact s0
    · have e3 : ((x.s : Int) == 3) = false := by simp; omega
      have e4 : ((x.s : Int) == 4) = false := by simp; omega
      have e5 : ((x.s : Int) == 5) = true := by simp; omega
      have hr : res = (R && (x.since == 0) && (x.code == 0)) := by
        rw [hres]; unfold couldP; rw [if_neg hneg', if_neg (by omega), if_neg (by omega), if_neg (by omega), if_pos (by omega)]
        rw [← hR, hsi0, hc0]
      rw [hr]
      rcases Bool.eq_false_or_eq_true (R) with h1 | h1 <;> rcases Bool.eq_false_or_eq_true (x.since == 0) with h2 | h2
      all_goals
        simp [f0, f1, f5, f6, f7, f8, f73, hB2, e3, e4, e5, x0, x3, x4, h1, h2, -load_ptr]
        exact s0
    · have e3 : ((x.s : Int) == 3) = false := by simp; omega
      have e4 : ((x.s : Int) == 4) = false := by simp; omega
      have e5 : ((x.s : Int) == 5) = false := by simp; omega
      have e8 : ((x.s : Int) == 8) = true := by simp; omega
      have hr : res = (R && (x.since == 0) && (x.code == 0)) := by
        rw [hres]; unfold couldP; rw [if_neg hneg', if_neg (by omega), if_neg (by omega), if_neg (by omega), if_pos (by omega)]
        rw [← hR, hsi0, hc0]
      rw [hr]
      rcases Bool.eq_false_or_eq_true (R) with h1 | h1 <;> rcases Bool.eq_false_or_eq_true (x.since == 0) with h2 | h2
      all_goals
        simp [f0, f1, f5, f6, f7, f8, f73, hB2, e3, e4, e5, e8, x0, x3, x4, h1, h2, -load_ptr]
        exact s0
    · have e3 : ((x.s : Int) == 3) = false := by simp; omega
      have e4 : ((x.s : Int) == 4) = false := by simp; omega
      have e5 : ((x.s : Int) == 5) = false := by simp; omega
      have e8 : ((x.s : Int) == 8) = false := by simp; omega
      have e11 : ((x.s : Int) == 11) = true := by simp; omega
      have hr : res = (R && (x.since == 0) && (x.code == 0)) := by
        rw [hres]; unfold couldP; rw [if_neg hneg', if_neg (by omega), if_neg (by omega), if_neg (by omega), if_pos (by omega)]
        rw [← hR, hsi0, hc0]
      rw [hr]
      rcases Bool.eq_false_or_eq_true (R) with h1 | h1 <;> rcases Bool.eq_false_or_eq_true (x.since == 0) with h2 | h2
      all_goals
        simp [f0, f1, f5, f6, f7, f8, f73, hB2, e3, e4, e5, e8, e11, x0, x3, x4, h1, h2, -load_ptr]
        exact s0
    · have e3 : ((x.s : Int) == 3) = false := by simp; omega
      have e4 : ((x.s : Int) == 4) = false := by simp; omega
      have e5 : ((x.s : Int) == 5) = false := by simp; omega
      have e8 : ((x.s : Int) == 8) = false := by simp; omega
      have e11 : ((x.s : Int) == 11) = false := by simp; omega
      have e6 : ((x.s : Int) == 6) = true := by simp; omega
      have hr : res = (R && (x.since == 0) && (x.tried == tries) && decide (1 ≤ x.code)) := by
        rw [hres]; unfold couldP; rw [if_neg hneg', if_neg (by omega), if_neg (by omega), if_neg (by omega), if_neg (by omega), if_pos (by omega)]
        rw [← hR, hsi0, htt]
      rw [hr]
      rcases Bool.eq_false_or_eq_true (R) with h1 | h1 <;> rcases Bool.eq_false_or_eq_true (x.since == 0) with h2 | h2 <;> rcases Bool.eq_false_or_eq_true (x.tried == tries) with h3 | h3
      all_goals
        simp [f0, f1, f5, f6, f7, f8, f73, hB2, e3, e4, e5, e8, e11, e6, x0, x1, x3, x4, y6, h1, h2, h3, -load_ptr]
        exact s0
    · have e3 : ((x.s : Int) == 3) = false := by simp; omega
      have e4 : ((x.s : Int) == 4) = false := by simp; omega
      have e5 : ((x.s : Int) == 5) = false := by simp; omega
      have e8 : ((x.s : Int) == 8) = false := by simp; omega
      have e11 : ((x.s : Int) == 11) = false := by simp; omega
      have e6 : ((x.s : Int) == 6) = false := by simp; omega
      have e7 : ((x.s : Int) == 7) = true := by simp; omega
      have hr : res = (R && (x.since == 0) && (x.tried == tries) && (x.code == 0)) := by
        rw [hres]; unfold couldP; rw [if_neg hneg', if_neg (by omega), if_neg (by omega), if_neg (by omega), if_neg (by omega), if_neg (by omega), if_pos (by omega)]
        rw [← hR, hsi0, htt, hc0]
      rw [hr]
      rcases Bool.eq_false_or_eq_true (R) with h1 | h1 <;> rcases Bool.eq_false_or_eq_true (x.since == 0) with h2 | h2 <;> rcases Bool.eq_false_or_eq_true (x.tried == tries) with h3 | h3
      all_goals
        simp [f0, f1, f5, f6, f7, f8, f73, hB2, e3, e4, e5, e8, e11, e6, e7, x0, x1, x3, x4, y6, h1, h2, h3, -load_ptr]
        exact s0
    · have e3 : ((x.s : Int) == 3) = false := by simp; omega
      have e4 : ((x.s : Int) == 4) = false := by simp; omega
      have e5 : ((x.s : Int) == 5) = false := by simp; omega
      have e8 : ((x.s : Int) == 8) = false := by simp; omega
      have e11 : ((x.s : Int) == 11) = false := by simp; omega
      have e6 : ((x.s : Int) == 6) = false := by simp; omega
      have e7 : ((x.s : Int) == 7) = false := by simp; omega
      have n9 : ((x.s : Int) != 9) = false := by simp; omega
      have hr : res = ((x.badge == 0) && (x.since == 0) && (x.code == 0) && (((x.tried == 0) && !x.played) || A) && ((x.tried == 0) || MR)) := by
        rw [hres]; unfold couldP; rw [if_neg hneg', if_neg (by omega), if_neg (by omega), if_neg (by omega), if_neg (by omega), if_neg (by omega), if_neg (by omega), if_pos (by omega)]
        rw [← hMR, ← hA, hb0, hsi0, hc0, ht0]
      rw [hr]
      by_cases k1 : x.badge = 0
      · by_cases k2 : x.since = 0
        · by_cases k3 : x.code = 0
          · have k1' : (x.badge != 0) = false := by simp [k1]
            have k2' : (x.since != 0) = false := by simp [k2]
            have k3' : (x.code != 0) = false := by simp [k3]
            rcases Bool.eq_false_or_eq_true (x.tried == 0) with h1 | h1 <;> rcases Bool.eq_false_or_eq_true x.played with h2 | h2
            case' inl.inr => simp [f0, f1, f5, f6, f7, f8, f73, hB2, e3, e4, e5, e8, e11, e6, e7, n9, x0, x1, x2, x3, x4, x5, k1, k2, k3, k1', k2', k3', h1, h2, -load_ptr]; exact s0
            all_goals
              simp [f0, f1, f5, f6, f7, f8, f73, hB2, e3, e4, e5, e8, e11, e6, e7, n9, x0, x1, x2, x3, x4, x5, k1', k2', k3', h1, h2, -load_ptr]
              refine after_call (hps g0 s0) ?_
              rintro r g1 ⟨rfl, rfl⟩
              rcases Bool.eq_false_or_eq_true A with h3 | h3 <;> rcases Bool.eq_false_or_eq_true MR with h4 | h4
            all_goals
              simp [f0, f1, f5, f6, f7, f8, f73, x1, h1, h2, h3, h4, k1, k2, k3, -load_ptr]
              exact s0
          · have k1' : (x.badge != 0) = false := by simp [k1]
            have k2' : (x.since != 0) = false := by simp [k2]
            have k3' : (x.code != 0) = true := by simp [k3]
            have k3'' : (x.code == 0) = false := by simp [k3]
            simp [f0, f1, f5, f6, f7, f8, f73, hB2, e3, e4, e5, e8, e11, e6, e7, n9, x0, x2, x3, x4, k1', k2', k3', k3'', -load_ptr]
            exact s0
        · have k1' : (x.badge != 0) = false := by simp [k1]
          have k2' : (x.since != 0) = true := by simp [k2]
          have k2'' : (x.since == 0) = false := by simp [k2]
          simp [f0, f1, f5, f6, f7, f8, f73, hB2, e3, e4, e5, e8, e11, e6, e7, n9, x0, x2, x3, x4, k1', k2', k2'', -load_ptr]
          exact s0
      · have k1' : (x.badge != 0) = true := by simp [k1]
        have k1'' : (x.badge == 0) = false := by simp [k1]
        simp [f0, f1, f5, f6, f7, f8, f73, hB2, e3, e4, e5, e8, e11, e6, e7, n9, x0, x2, k1', k1'', -load_ptr]
        exact s0
    · have e3 : ((x.s : Int) == 3) = false := by simp; omega
      have e4 : ((x.s : Int) == 4) = false := by simp; omega
      have e5 : ((x.s : Int) == 5) = false := by simp; omega
      have e8 : ((x.s : Int) == 8) = false := by simp; omega
      have e11 : ((x.s : Int) == 11) = false := by simp; omega
      have e6 : ((x.s : Int) == 6) = false := by simp; omega
      have e7 : ((x.s : Int) == 7) = false := by simp; omega
      have n9 : ((x.s : Int) != 9) = true := by simp; omega
      have hr : res = false := by rw [hres]; unfold couldP; rw [if_neg hneg', if_neg (by omega), if_neg (by omega), if_neg (by omega), if_neg (by omega), if_neg (by omega), if_neg (by omega), if_neg (by omega)]
      rw [hr]
      simp [f0, f1, f5, f6, f7, f8, f73, hB2, e3, e4, e5, e8, e11, e6, e7, n9, x0, -load_ptr]
      exact s0
end Go.Proofs.Ytklhioaokogpdaa
