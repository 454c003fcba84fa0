/- jobs.could: whether a job could stand as it does; no condition. -/
import Derived.Test.YtklhioaokogpdaaPCould
namespace Go.Proofs.Ytklhioaokogpdaa
open Go.Ab
theorem jbCells_eq (y : Jb) : y.cells = [y.nv, .int .i64 y.tries, .int .i64 y.limit, .bool y.manual] := rfl
set_option maxHeartbeats 4000000 in
set_option maxRecDepth 6000 in
theorem could_ev {h : Hp} {k b : Nat} {jv lv : Value} {js : List Jb} {l : List St} (m : JM h k b jv lv js l) (i : Nat) (hi : i < l.length) (hcode : 0 ≤ (l.getD i St.no).code) :
    EvA Try.prog 89 [.pointer (some ⟨b, 0, none⟩), .int .i64 (i : Nat)] (fun r h' => r = .bool (couldP (js.getD i Jb.no) l (l.getD i St.no)) ∧ Same h h') h := by
  refine EvA.body Try.func89 rfl (by kernel_rfl) (by simp) ?_
  apply Run.ok
  have l0 := m.l0
  have j0 := m.j0
  have ia := m.ia hi .i64
  have ja := m.ja hi .i64
  have ag := m.ag hi
  have hjl : i < js.length := by have := m.len; omega
  have jag := m.jt.agg (P := Try.prog) (e := 128) (by simp) (by simp) hjl
  rw [getD_at js Jb.no hjl] at jag
  have hone := (Row.one (m.nr _ (m.jmem hi)).row).2
  have l0t : ∀ t, loadA Try.prog 56 (.pointer (some ⟨b, 1, none⟩)) (h ++ t) = some lv := fun t => (m.same (Same.new t)).l0
  have j0t : ∀ t, loadA Try.prog 111 (.pointer (some ⟨b, 0, none⟩)) (h ++ t) = some jv := fun t => (m.same (Same.new t)).j0
  have agt : ∀ t, loadA Try.prog 63 (.pointer (some ⟨rbl lv, rof lv + i * 6, none⟩)) (h ++ t) = some (.agg (l.getD i St.no).cells.toArray) := fun t => (m.same (Same.new t)).ag hi
  have jagt : ∀ t, loadA Try.prog 128 (.pointer (some ⟨rbl jv, rof jv + i * 4, none⟩)) (h ++ t) = some (.agg (js.getD i Jb.no).cells.toArray) := fun t => by
    rw [(m.same (Same.new t)).jt.agg (P := Try.prog) (e := 128) (by simp) (by simp) hjl, getD_at js Jb.no hjl]
  obtain ⟨res, hres⟩ : ∃ res, res = couldP (js.getD i Jb.no) l (l.getD i St.no) := ⟨_, rfl⟩
  rw [← hres]
  obtain ⟨y, hy⟩ : ∃ y, y = js.getD i Jb.no := ⟨_, rfl⟩
  obtain ⟨x, hx⟩ : ∃ x, x = l.getD i St.no := ⟨_, rfl⟩
  have hnd := needed_ev i hi (m.same (Same.new [.cells x.cells false none, .cells y.cells false none]))
  have hnx := fun g (s : Same h g) => next_ev i hi (m.same s)
  rw [← hy, ← hx] at hres
  rw [← hy] at jag hone jagt hnd hnx
  rw [← hx] at ag agt hcode hnx
  rw [stA_cells] at ag
  simp only [stA_cells] at agt
  rw [jbCells_eq] at jag
  simp only [jbCells_eq] at jagt
  simp
  refine WpA.drawnA [0, 1, 2, 3, 4, 5, 6, 7, 8, 9, 10, 11, 12, 13, 14, 15, 16, 17] [[], [], [], [], [], [], [], [], [], [], [], [], [], [], [], [], [0, 1, 2, 3, 4, 5, 6, 14, 15], [0, 1, 2, 3, 4, 5, 6, 7, 8, 9, 10, 11, 12, 13, 14, 15, 16]] (by kernel_rfl) (by decide +kernel) (by decide +kernel) ?_
  simp [l0, j0, ia, ja, ag, jag, l0t, j0t, agt, jagt, hone, cellsOf, spl, -load_ptr]
  rw [stA_cells, jbCells_eq] at hnd
  have s0 : Same h (h ++ [.cells [.int .u8 (x.s : Nat), .int .i64 x.tried, .int .i64 x.badge, .int .i64 x.since, .int .i64 x.code, .bool x.played] false none, .cells [y.nv, .int .i64 y.tries, .int .i64 y.limit, .bool y.manual] false none]) := Same.new _
  have hX : (h ++ [Blk.cells [.int .u8 (x.s : Nat), .int .i64 x.tried, .int .i64 x.badge, .int .i64 x.since, .int .i64 x.code, .bool x.played] false none, .cells [y.nv, .int .i64 y.tries, .int .i64 y.limit, .bool y.manual] false none])[h.length]? = some (.cells [.int .u8 (x.s : Nat), .int .i64 x.tried, .int .i64 x.badge, .int .i64 x.since, .int .i64 x.code, .bool x.played] false none) := by simp
  have hY : (h ++ [Blk.cells [.int .u8 (x.s : Nat), .int .i64 x.tried, .int .i64 x.badge, .int .i64 x.since, .int .i64 x.code, .bool x.played] false none, .cells [y.nv, .int .i64 y.tries, .int .i64 y.limit, .bool y.manual] false none])[h.length + 1]? = some (.cells [y.nv, .int .i64 y.tries, .int .i64 y.limit, .bool y.manual] false none) := by simp
  generalize h ++ [Blk.cells [.int .u8 (x.s : Nat), .int .i64 x.tried, .int .i64 x.badge, .int .i64 x.since, .int .i64 x.code, .bool x.played] false none, .cells [y.nv, .int .i64 y.tries, .int .i64 y.limit, .bool y.manual] false none] = g0 at s0 hX hY hnd ⊢
  refine after_call hnd ?_
  rintro r g0 ⟨rfl, rfl⟩
  obtain ⟨A, hA⟩ : ∃ A, A = passA y l := ⟨_, rfl⟩
  obtain ⟨Q9, hQ⟩ : ∃ Q9, Q9 = (!y.manual || x.played) := ⟨_, rfl⟩
  obtain ⟨R, hR⟩ : ∃ R, R = ranB y l x := ⟨_, rfl⟩
  have hR' : R = (A && Q9 && decide (1 ≤ x.tried) && decide (1 ≤ x.badge)) := by rw [hR, hA, hQ]; rfl
  have hM : mayRunB y l x = (A && Q9) := by rw [hA, hQ]; rfl
  rw [← hA]
  have x0 : ∀ t, loadA Try.prog 5 (.pointer (some ⟨h.length, 0, none⟩)) (g0 ++ t) = some (.int .u8 (x.s : Nat)) := fun t => by rw [load_at ((Same.new t).at hX) (by simp)]; rfl
  have x1 : ∀ t, loadA Try.prog 3 (.pointer (some ⟨h.length, 1, none⟩)) (g0 ++ t) = some (.int .i64 x.tried) := fun t => by rw [load_at ((Same.new t).at hX) (by simp)]; rfl
  have x2 : ∀ t, loadA Try.prog 3 (.pointer (some ⟨h.length, 2, none⟩)) (g0 ++ t) = some (.int .i64 x.badge) := fun t => by rw [load_at ((Same.new t).at hX) (by simp)]; rfl
  have x3 : ∀ t, loadA Try.prog 3 (.pointer (some ⟨h.length, 3, none⟩)) (g0 ++ t) = some (.int .i64 x.since) := fun t => by rw [load_at ((Same.new t).at hX) (by simp)]; rfl
  have x4 : ∀ t, loadA Try.prog 3 (.pointer (some ⟨h.length, 4, none⟩)) (g0 ++ t) = some (.int .i64 x.code) := fun t => by rw [load_at ((Same.new t).at hX) (by simp)]; rfl
  have x5 : ∀ t, loadA Try.prog 4 (.pointer (some ⟨h.length, 5, none⟩)) (g0 ++ t) = some (.bool x.played) := fun t => by rw [load_at ((Same.new t).at hX) (by simp)]; rfl
  have xa : ∀ t, loadA Try.prog 63 (.pointer (some ⟨h.length, 0, none⟩)) (g0 ++ t) = some (.agg #[.int .u8 (x.s : Nat), .int .i64 x.tried, .int .i64 x.badge, .int .i64 x.since, .int .i64 x.code, .bool x.played]) := fun t => by
    have := (Same.new t).at hX
    simp [this]
  have y1 : ∀ t, loadA Try.prog 3 (.pointer (some ⟨h.length + 1, 1, none⟩)) (g0 ++ t) = some (.int .i64 y.tries) := fun t => by rw [load_at ((Same.new t).at hY) (by simp)]; rfl
  have y3 : ∀ t, loadA Try.prog 4 (.pointer (some ⟨h.length + 1, 3, none⟩)) (g0 ++ t) = some (.bool y.manual) := fun t => by rw [load_at ((Same.new t).at hY) (by simp)]; rfl
  have z0 := x0 []
  have z1 := x1 []
  have z2 := x2 []
  have z5 := x5 []
  have u1 := y1 []
  have u3 := y3 []
  rw [List.append_nil] at z0 z1 z2 z5 u1 u3
  have ow : ∀ a b c d e f : Value, loadA Try.prog 63 (.pointer (some ⟨g0.length, 0, none⟩)) (g0 ++ [.cells [a, b, c, d, e, f] false none]) = some (.agg #[a, b, c, d, e, f]) := fun a b c d e f => by simp
  have s0t : ∀ t, Same h (g0 ++ t) := fun t => s0.trans (Same.new t)
  apply cutRun (F := fun fr => fr 0 = .pointer (some ⟨b, 0, none⟩) ∧ fr 1 = .int .i64 (i : Nat) ∧ fr 5 = .pointer (some ⟨h.length, 0, none⟩) ∧ fr 6 = .pointer (some ⟨h.length + 1, 0, none⟩) ∧ fr 7 = .bool A ∧ fr 9 = .bool Q9 ∧ fr 10 = .pointer (some ⟨g0.length, 0, none⟩) ∧ fr 11 = .bool R ∧ fr 75 = .int .u8 (x.s : Nat) ∧ ¬ ((x.played = true ∧ y.manual = false) ∨ y.tries < x.tried))
    (g := g0 ++ [.cells [.int .u8 (x.s : Nat), .int .i64 x.tried, .int .i64 0, .int .i64 0, .int .i64 0, .bool x.played] false none])
  · intro key
    have hheap : ∀ pv, x.played = pv → (g0 ++ [Blk.cells [.int .u8 (x.s : Nat), .int .i64 x.tried, .int .i64 0, .int .i64 0, .int .i64 0, .bool pv] false none]) = (g0 ++ [Blk.cells [.int .u8 (x.s : Nat), .int .i64 x.tried, .int .i64 0, .int .i64 0, .int .i64 0, .bool x.played] false none]) := by rintro _ rfl; rfl
    by_cases hneg : (x.played = true ∧ y.manual = false) ∨ y.tries < x.tried
    · have hr : res = false := by rw [hres]; unfold couldP; rw [if_pos hneg]
      rw [hr]
      rcases Bool.eq_false_or_eq_true x.played with hp | hp
      · rcases Bool.eq_false_or_eq_true y.manual with hm | hm
        · have hT : y.tries < x.tried := by rcases hneg with h1 | h1; rw [hm] at h1; simp at h1; exact h1
          simp [z1, z5, u1, u3, hp, hm, hT, -load_ptr]
          exact s0
        · simp [z5, u3, hp, hm, -load_ptr]
          exact s0
      · have hT : y.tries < x.tried := by rcases hneg with h1 | h1; rw [hp] at h1; simp at h1; exact h1
        rcases Bool.eq_false_or_eq_true y.manual with hm | hm
        · simp [z1, z5, u1, u3, hp, hm, hT, -load_ptr]
          exact s0
        · simp [z1, z5, u1, u3, hp, hm, hT, -load_ptr]
          exact s0
    · have hT : ¬ y.tries < x.tried := fun h => hneg (.inr h)
      have h3 : (x.played = true ∧ y.manual = true) ∨ (x.played = false ∧ y.manual = true) ∨ (x.played = false ∧ y.manual = false) := by
        rcases Bool.eq_false_or_eq_true x.played with hp | hp <;> rcases Bool.eq_false_or_eq_true y.manual with hm | hm
        · exact .inl ⟨hp, hm⟩
        · exact absurd (Or.inl ⟨hp, hm⟩) hneg
        · exact .inr (.inl ⟨hp, hm⟩)
        · exact .inr (.inr ⟨hp, hm⟩)
      rcases Bool.eq_false_or_eq_true A with hA2 | hA2 <;> rcases h3 with ⟨hp, hm⟩ | ⟨hp, hm⟩ | ⟨hp, hm⟩
      all_goals
        have hQ2 := hQ
        rw [hp, hm] at hQ2
        simp only [Bool.not_true, Bool.not_false, Bool.or_false, Bool.or_true] at hQ2
        by_cases t1 : 1 ≤ x.tried
      all_goals
        by_cases b1 : 1 ≤ x.badge
      all_goals
        have hR2 := hR'
        simp only [hA2, hQ2, t1, b1, decide_true, decide_false, Bool.and_true, Bool.and_false] at hR2
        simp [z0, z1, z5, u1, u3, x0, x1, x2, hA2, hp, hm, hT, t1, b1, cellsOf, spl, -load_ptr, -Run_block']
        rw [hheap _ hp]
        refine key _ ?_
        exact ⟨by simp, by simp, by simp, by simp, by simp [hA2], by simp [hQ2], by simp, by simp [hR2], by simp, hneg⟩
  · rintro fr ⟨f0, f1, f5, f6, f7, f9, f10, f11, f75, hneg⟩
    have hs := fun (P : Bool) (h1 : couldP y l x = P) => hres.trans h1
    have hE : stEq x ⟨x.s, x.tried, 0, 0, 0, x.played⟩ = (decide (x.badge = 0) && decide (x.since = 0) && decide (x.code = 0)) := by
      rw [Bool.eq_iff_iff]; simp [stEq]
    have hE4 : stEq x ⟨x.s, x.tried, x.badge, x.since, 0, x.played⟩ = decide (x.code = 0) := by
      rw [Bool.eq_iff_iff]; simp [stEq]
    have hE5 : stEq x ⟨x.s, x.tried, x.badge, 0, 0, x.played⟩ = (decide (x.since = 0) && decide (x.code = 0)) := by
      rw [Bool.eq_iff_iff]; simp [stEq]
    have hE6 : stEq x ⟨x.s, x.tried, x.badge, 0, x.code, x.played⟩ = decide (x.since = 0) := by
      rw [Bool.eq_iff_iff]; simp [stEq]
    have q3 := fun o q => st_eq x ⟨x.s, x.tried, 0, 0, 0, x.played⟩ o q
    have q4 := fun o q => st_eq x ⟨x.s, x.tried, x.badge, x.since, 0, x.played⟩ o q
    have q5 := fun o q => st_eq x ⟨x.s, x.tried, x.badge, 0, 0, x.played⟩ o q
    have q6 := fun o q => st_eq x ⟨x.s, x.tried, x.badge, 0, x.code, x.played⟩ o q
    have q1 := fun o q => st_eq x ⟨nextA y l x.played, 0, 0, 0, 0, false⟩ o q
    have hE1 : stEq x ⟨nextA y l x.played, 0, 0, 0, 0, false⟩ = stEq x ⟨nextA y l false, 0, 0, 0, 0, false⟩ := by
      cases hp : x.played
      · rfl
      · simp [stEq, hp]
    rw [hE] at q3
    rw [hE4] at q4
    rw [hE5] at q5
    rw [hE6] at q6
    rw [hE1] at q1
    simp only at q1 q3 q4 q5 q6
    have hss : x.s = 1 ∨ x.s = 10 ∨ x.s = 2 ∨ x.s = 3 ∨ x.s = 4 ∨ x.s = 5 ∨ x.s = 8 ∨ x.s = 11 ∨ x.s = 6 ∨ x.s = 7 ∨ x.s = 9 ∨ (¬ x.s = 1 ∧ ¬ x.s = 2 ∧ ¬ x.s = 3 ∧ ¬ x.s = 4 ∧ ¬ x.s = 5 ∧ ¬ x.s = 6 ∧ ¬ x.s = 7 ∧ ¬ x.s = 8 ∧ ¬ x.s = 9 ∧ ¬ x.s = 10 ∧ ¬ x.s = 11) := by omega
    obtain ⟨E3, hE3⟩ : ∃ E, E = (decide (x.badge = 0) && decide (x.since = 0) && decide (x.code = 0)) := ⟨_, rfl⟩
    obtain ⟨E4, hE4'⟩ : ∃ E, E = decide (x.code = 0) := ⟨_, rfl⟩
    obtain ⟨E5, hE5'⟩ : ∃ E, E = (decide (x.since = 0) && decide (x.code = 0)) := ⟨_, rfl⟩
    obtain ⟨E6, hE6'⟩ : ∃ E, E = decide (x.since = 0) := ⟨_, rfl⟩
    rw [← hE3] at q3
    rw [← hE4'] at q4
    rw [← hE5'] at q5
    rw [← hE6'] at q6
    rcases hss with hz | hz | hz | hz | hz | hz | hz | hz | hz | hz | hz | ⟨d1, d2, d3, d4, d5, d6, d7, d8, d9, d10, d11⟩
    · have e1 : ((x.s : Int) == 1) = true := by simp; omega
      have hr : res = stEq x ⟨nextA y l false, 0, 0, 0, 0, false⟩ := by rw [hres]; unfold couldP; rw [if_neg hneg, if_pos (by omega)]
      rw [hr]
      simp [f75, e1, -load_ptr]
      refine WpA.drawnA [0, 1, 2, 3, 4, 5, 6] [[], [], [], [1, 2]] (by kernel_rfl) (by decide +kernel) (by decide +kernel) ?_
      simp [f0, f1, f5, xa, -load_ptr]
      refine after_call (hnx _ (s0t _)) ?_
      rintro r g2 ⟨rfl, rfl⟩
      simp [f5, xa, q1, spl, -load_ptr]
      exact s0t _
    · have e1 : ((x.s : Int) == 1) = false := by simp; omega
      have e10 : ((x.s : Int) == 10) = true := by simp; omega
      have hr : res = stEq x ⟨nextA y l false, 0, 0, 0, 0, false⟩ := by rw [hres]; unfold couldP; rw [if_neg hneg, if_pos (by omega)]
      rw [hr]
      simp [f75, e1, e10, -load_ptr]
      refine WpA.drawnA [0, 1, 2, 3, 4, 5, 6] [[], [], [], [1, 2]] (by kernel_rfl) (by decide +kernel) (by decide +kernel) ?_
      simp [f0, f1, f5, xa, -load_ptr]
      refine after_call (hnx _ (s0t _)) ?_
      rintro r g2 ⟨rfl, rfl⟩
      simp [f5, xa, q1, spl, -load_ptr]
      exact s0t _
    · have e1 : ((x.s : Int) == 1) = false := by simp; omega
      have e10 : ((x.s : Int) == 10) = false := by simp; omega
      have e2 : ((x.s : Int) == 2) = true := by simp; omega
      have hr : res = stEq x ⟨nextA y l false, 0, 0, 0, 0, false⟩ := by rw [hres]; unfold couldP; rw [if_neg hneg, if_pos (by omega)]
      rw [hr]
      simp [f75, e1, e10, e2, -load_ptr]
      refine WpA.drawnA [0, 1, 2, 3, 4, 5, 6] [[], [], [], [1, 2]] (by kernel_rfl) (by decide +kernel) (by decide +kernel) ?_
      simp [f0, f1, f5, xa, -load_ptr]
      refine after_call (hnx _ (s0t _)) ?_
      rintro r g2 ⟨rfl, rfl⟩
      simp [f5, xa, q1, spl, -load_ptr]
      exact s0t _
    · have e1 : ((x.s : Int) == 1) = false := by simp; omega
      have e10 : ((x.s : Int) == 10) = false := by simp; omega
      have e2 : ((x.s : Int) == 2) = false := by simp; omega
      have e3 : ((x.s : Int) == 3) = true := by simp; omega
      have hr : res = (E3 && A && Q9 && decide (x.tried < y.tries)) := by
        rw [hres]; unfold couldP; rw [if_neg hneg, if_neg (by omega), if_pos (by omega)]
        rw [hM, hE3]; cases A <;> cases Q9 <;> cases decide (x.tried < y.tries) <;> simp
      rw [hr]
      rcases Bool.eq_false_or_eq_true E3 with h1 | h1 <;> rcases Bool.eq_false_or_eq_true A with h2 | h2 <;> rcases Bool.eq_false_or_eq_true Q9 with h3 | h3
      all_goals
        simp [f5, f6, f7, f9, f10, f75, e1, e10, e2, e3, xa, ow, q3, x1, y1, h1, h2, h3, -load_ptr]
        exact s0t _
    · have e1 : ((x.s : Int) == 1) = false := by simp; omega
      have e10 : ((x.s : Int) == 10) = false := by simp; omega
      have e2 : ((x.s : Int) == 2) = false := by simp; omega
      have e3 : ((x.s : Int) == 3) = false := by simp; omega
      have e4 : ((x.s : Int) == 4) = true := by simp; omega
      have hr : res = (E4 && R) := by
        rw [hres]; unfold couldP; rw [if_neg hneg, if_neg (by omega), if_neg (by omega), if_pos (by omega)]
        rw [← hR, hE4']; cases R <;> simp
      rw [hr]
      simp [f75, e1, e10, e2, e3, e4, -load_ptr]
      refine WpA.drawnA [0, 1, 2, 3, 4, 5, 6, 7] [[], [], [], [], [], [0, 1, 4], [], [0, 1, 2, 3, 4, 5, 6]] (by kernel_rfl) (by decide +kernel) (by decide +kernel) ?_
      rcases Bool.eq_false_or_eq_true E4 with h1 | h1 <;> rcases Bool.eq_false_or_eq_true R with h2 | h2
      all_goals
        simp [f5, f10, f11, x2, x3, xa, ow, q4, h1, h2, cellsOf, spl, -load_ptr]
        exact s0t _
    · have e1 : ((x.s : Int) == 1) = false := by simp; omega
      have e10 : ((x.s : Int) == 10) = false := by simp; omega
      have e2 : ((x.s : Int) == 2) = false := by simp; omega
      have e3 : ((x.s : Int) == 3) = false := by simp; omega
      have e4 : ((x.s : Int) == 4) = false := by simp; omega
      have e5 : ((x.s : Int) == 5) = true := by simp; omega
      have hr : res = (E5 && R) := by
        rw [hres]; unfold couldP; rw [if_neg hneg, if_neg (by omega), if_neg (by omega), if_neg (by omega), if_pos (by omega)]
        rw [← hR, hE5']; cases R <;> simp
      rw [hr]
      rcases Bool.eq_false_or_eq_true E5 with h1 | h1 <;> rcases Bool.eq_false_or_eq_true R with h2 | h2
      all_goals
        simp [f5, f10, f11, f75, e1, e10, e2, e3, e4, e5, x2, xa, ow, q5, h1, h2, cellsOf, spl, -load_ptr]
        exact s0t _
    · have e1 : ((x.s : Int) == 1) = false := by simp; omega
      have e10 : ((x.s : Int) == 10) = false := by simp; omega
      have e2 : ((x.s : Int) == 2) = false := by simp; omega
      have e3 : ((x.s : Int) == 3) = false := by simp; omega
      have e4 : ((x.s : Int) == 4) = false := by simp; omega
      have e5 : ((x.s : Int) == 5) = false := by simp; omega
      have e8 : ((x.s : Int) == 8) = true := by simp; omega
      have hr : res = (E5 && R) := by
        rw [hres]; unfold couldP; rw [if_neg hneg, if_neg (by omega), if_neg (by omega), if_neg (by omega), if_pos (by omega)]
        rw [← hR, hE5']; cases R <;> simp
      rw [hr]
      rcases Bool.eq_false_or_eq_true E5 with h1 | h1 <;> rcases Bool.eq_false_or_eq_true R with h2 | h2
      all_goals
        simp [f5, f10, f11, f75, e1, e10, e2, e3, e4, e5, e8, x2, xa, ow, q5, h1, h2, cellsOf, spl, -load_ptr]
        exact s0t _
    · have e1 : ((x.s : Int) == 1) = false := by simp; omega
      have e10 : ((x.s : Int) == 10) = false := by simp; omega
      have e2 : ((x.s : Int) == 2) = false := by simp; omega
      have e3 : ((x.s : Int) == 3) = false := by simp; omega
      have e4 : ((x.s : Int) == 4) = false := by simp; omega
      have e5 : ((x.s : Int) == 5) = false := by simp; omega
      have e8 : ((x.s : Int) == 8) = false := by simp; omega
      have e11 : ((x.s : Int) == 11) = true := by simp; omega
      have hr : res = (E5 && R) := by
        rw [hres]; unfold couldP; rw [if_neg hneg, if_neg (by omega), if_neg (by omega), if_neg (by omega), if_pos (by omega)]
        rw [← hR, hE5']; cases R <;> simp
      rw [hr]
      rcases Bool.eq_false_or_eq_true E5 with h1 | h1 <;> rcases Bool.eq_false_or_eq_true R with h2 | h2
      all_goals
        simp [f5, f10, f11, f75, e1, e10, e2, e3, e4, e5, e8, e11, x2, xa, ow, q5, h1, h2, cellsOf, spl, -load_ptr]
        exact s0t _
    · have e1 : ((x.s : Int) == 1) = false := by simp; omega
      have e10 : ((x.s : Int) == 10) = false := by simp; omega
      have e2 : ((x.s : Int) == 2) = false := by simp; omega
      have e3 : ((x.s : Int) == 3) = false := by simp; omega
      have e4 : ((x.s : Int) == 4) = false := by simp; omega
      have e5 : ((x.s : Int) == 5) = false := by simp; omega
      have e8 : ((x.s : Int) == 8) = false := by simp; omega
      have e11 : ((x.s : Int) == 11) = false := by simp; omega
      have e6 : ((x.s : Int) == 6) = true := by simp; omega
      have hr : res = (E6 && R && (x.tried == y.tries) && (decide (0 < x.code))) := by
        rw [hres]; unfold couldP; rw [if_neg hneg, if_neg (by omega), if_neg (by omega), if_neg (by omega), if_neg (by omega), if_pos (by omega)]
        have hc : decide (1 ≤ x.code) = (decide (0 < x.code)) := by rw [Bool.eq_iff_iff]; simp; omega
        have ht : decide (x.tried = y.tries) = (x.tried == y.tries) := by rw [Bool.eq_iff_iff]; simp
        rw [← hR, hc, ht, hE6']; cases R <;> cases (x.tried == y.tries) <;> simp
      rw [hr]
      simp [f75, e1, e10, e2, e3, e4, e5, e8, e11, e6, -load_ptr]
      refine WpA.drawnA [0, 1, 2, 3, 4, 5, 6, 7] [[], [], [], [], [], [0, 1, 4], [], [0, 1, 2, 3, 4, 5, 6]] (by kernel_rfl) (by decide +kernel) (by decide +kernel) ?_
      rcases Bool.eq_false_or_eq_true E6 with h1 | h1 <;> rcases Bool.eq_false_or_eq_true R with h2 | h2 <;> rcases Bool.eq_false_or_eq_true (x.tried == y.tries) with h3 | h3
      all_goals
        simp [f5, f6, f10, f11, e6, x0, x1, x2, x4, xa, ow, y1, q6, h1, h2, h3, cellsOf, spl, -load_ptr]
        exact s0t _
    · have e1 : ((x.s : Int) == 1) = false := by simp; omega
      have e10 : ((x.s : Int) == 10) = false := by simp; omega
      have e2 : ((x.s : Int) == 2) = false := by simp; omega
      have e3 : ((x.s : Int) == 3) = false := by simp; omega
      have e4 : ((x.s : Int) == 4) = false := by simp; omega
      have e5 : ((x.s : Int) == 5) = false := by simp; omega
      have e8 : ((x.s : Int) == 8) = false := by simp; omega
      have e11 : ((x.s : Int) == 11) = false := by simp; omega
      have e6 : ((x.s : Int) == 6) = false := by simp; omega
      have e7 : ((x.s : Int) == 7) = true := by simp; omega
      have hr : res = (E6 && R && (x.tried == y.tries) && (!decide (0 < x.code))) := by
        rw [hres]; unfold couldP; rw [if_neg hneg, if_neg (by omega), if_neg (by omega), if_neg (by omega), if_neg (by omega), if_neg (by omega), if_pos (by omega)]
        have hc : decide (x.code = 0) = (!decide (0 < x.code)) := by rw [Bool.eq_iff_iff]; simp; omega
        have ht : decide (x.tried = y.tries) = (x.tried == y.tries) := by rw [Bool.eq_iff_iff]; simp
        rw [← hR, hc, ht, hE6']; cases R <;> cases (x.tried == y.tries) <;> simp
      rw [hr]
      simp [f75, e1, e10, e2, e3, e4, e5, e8, e11, e6, e7, -load_ptr]
      refine WpA.drawnA [0, 1, 2, 3, 4, 5, 6, 7] [[], [], [], [], [], [0, 1, 4], [], [0, 1, 2, 3, 4, 5, 6]] (by kernel_rfl) (by decide +kernel) (by decide +kernel) ?_
      rcases Bool.eq_false_or_eq_true E6 with h1 | h1 <;> rcases Bool.eq_false_or_eq_true R with h2 | h2 <;> rcases Bool.eq_false_or_eq_true (x.tried == y.tries) with h3 | h3
      all_goals
        simp [f5, f6, f10, f11, e6, x0, x1, x2, x4, xa, ow, y1, q6, h1, h2, h3, cellsOf, spl, -load_ptr]
        exact s0t _
    · have e1 : ((x.s : Int) == 1) = false := by simp; omega
      have e10 : ((x.s : Int) == 10) = false := by simp; omega
      have e2 : ((x.s : Int) == 2) = false := by simp; omega
      have e3 : ((x.s : Int) == 3) = false := by simp; omega
      have e4 : ((x.s : Int) == 4) = false := by simp; omega
      have e5 : ((x.s : Int) == 5) = false := by simp; omega
      have e8 : ((x.s : Int) == 8) = false := by simp; omega
      have e11 : ((x.s : Int) == 11) = false := by simp; omega
      have e6 : ((x.s : Int) == 6) = false := by simp; omega
      have e7 : ((x.s : Int) == 7) = false := by simp; omega
      have e9 : ((x.s : Int) == 9) = true := by simp; omega
      have hr : res = (E3 && ((x.tried == 0) || (A && Q9)) && (!x.played || A)) := by
        rw [hres]; unfold couldP; rw [if_neg hneg, if_neg (by omega), if_neg (by omega), if_neg (by omega), if_neg (by omega), if_neg (by omega), if_neg (by omega), if_pos (by omega)]
        have ht : decide (x.tried = 0) = (x.tried == 0) := by rw [Bool.eq_iff_iff]; simp
        rw [hM, ← hA, ht, hE3]; cases A <;> cases Q9 <;> cases (x.tried == 0) <;> cases x.played <;> simp
      rw [hr]
      rcases Bool.eq_false_or_eq_true E3 with h1 | h1 <;> rcases Bool.eq_false_or_eq_true A with h2 | h2 <;> rcases Bool.eq_false_or_eq_true Q9 with h3 | h3 <;> rcases Bool.eq_false_or_eq_true (x.tried == 0) with h4 | h4 <;> rcases Bool.eq_false_or_eq_true x.played with h5 | h5
      all_goals
        have q9 := q3
        have xa9 := xa
        rw [h5] at q9
        simp only [h5] at xa9
        simp [f5, f7, f9, f10, f75, e1, e10, e2, e3, e4, e5, e8, e11, e6, e7, e9, xa9, ow, q9, x1, x5, h1, h2, h3, h4, h5, -load_ptr]
        exact h5 ▸ s0t _
    · have e1 : ((x.s : Int) == 1) = false := by simp; omega
      have e10 : ((x.s : Int) == 10) = false := by simp; omega
      have e2 : ((x.s : Int) == 2) = false := by simp; omega
      have e3 : ((x.s : Int) == 3) = false := by simp; omega
      have e4 : ((x.s : Int) == 4) = false := by simp; omega
      have e5 : ((x.s : Int) == 5) = false := by simp; omega
      have e8 : ((x.s : Int) == 8) = false := by simp; omega
      have e11 : ((x.s : Int) == 11) = false := by simp; omega
      have e6 : ((x.s : Int) == 6) = false := by simp; omega
      have e7 : ((x.s : Int) == 7) = false := by simp; omega
      have e9 : ((x.s : Int) == 9) = false := by simp; omega
      have hr : res = false := by rw [hres]; unfold couldP; rw [if_neg hneg, if_neg (by omega), if_neg (by omega), if_neg (by omega), if_neg (by omega), if_neg (by omega), if_neg (by omega), if_neg (by omega)]
      rw [hr]
      simp [f75, e1, e10, e2, e3, e4, e5, e8, e11, e6, e7, e9, -load_ptr]
      exact s0t _
end Go.Proofs.Ytklhioaokogpdaa
