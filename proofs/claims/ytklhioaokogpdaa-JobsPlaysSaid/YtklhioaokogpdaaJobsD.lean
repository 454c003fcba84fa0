/- jobs: which plans may be, and jobs made anew; no condition. -/
import Derived.Test.YtklhioaokogpdaaJobsC
namespace Go.Proofs.Ytklhioaokogpdaa
open Go.Ab
/-- a plan's job, as it lies -/
structure Pj where
  c0 : Value
  nv : Value
  c2 : Value
  c3 : Value
  c4 : Value
  c5 : Value
  needs : List Int
  tries : Int
  limit : Int
  manual : Bool
def Pj.cells (y : Pj) : List Value := [y.c0, y.nv, y.c2, y.c3, y.c4, y.c5, .int .i64 y.tries, .int .i64 y.limit, .bool y.manual]
def Pj.no : Pj := ⟨.slice none 0 0, .slice none 0 0, .slice none 0 0, .slice none 0 0, .slice none 0 0, .slice none 0 0, [], 0, 0, false⟩
def intV (n : Int) : Value := .int .i64 n
/-- where a plan lies -/
structure PlanR (h : Hp) (v : Value) (ps : List Pj) : Prop where
  row : TRow h 9 v ps Pj.cells
  nr : ∀ y ∈ ps, Row h 1 y.nv y.needs.length (y.needs.map intV)
  one : ∀ y ∈ ps, y.cells.all oneA = true
  big : ps.length ≤ 140737488355328 ∧ ∀ y ∈ ps, y.needs.length ≤ 140737488355328
theorem PlanR.same {h h' : Hp} {v : Value} {ps : List Pj} (p : PlanR h v ps) (u : Same h h') : PlanR h' v ps := ⟨p.row.same u, fun y hy => (p.nr y hy).same u, p.one, p.big⟩
def risB (i : Int) : Int → List Int → Bool
  | _, [] => true
  | last, n :: ns => decide (last < n) && decide (n < i) && risB i n ns
def jobOkB (i : Nat) (y : Pj) : Bool := decide (1 ≤ y.tries) && decide (y.tries ≤ 5) && decide (0 ≤ y.limit) && decide (y.limit ≤ 1000) && risB i (-1) y.needs
def jobsOkB : Nat → List Pj → Bool
  | _, [] => true
  | i, y :: ys => jobOkB i y && jobsOkB (i + 1) ys
def mayP (ps : List Pj) : Bool := decide (ps.length ≤ 24) && jobsOkB 0 ps
theorem jobsOkB_at : ∀ (ps : List Pj) (i : Nat), jobsOkB i ps = true → ∀ k (hk : k < ps.length), jobOkB (i + k) ps[k] = true := by
  intro ps
  induction ps with
  | nil => intro i _ k hk; simp at hk
  | cons y ys ih =>
    intro i h k hk
    simp only [jobsOkB, Bool.and_eq_true] at h
    cases k with
    | zero => exact h.1
    | succ k =>
      have := ih (i + 1) h.2 k (by simpa using hk)
      rw [show i + (k + 1) = i + 1 + k by omega]
      exact this
theorem risB_spec : ∀ (ns : List Int) (i last : Int), risB i last ns = true → (∀ n ∈ ns, last < n ∧ n < i) ∧ (ns ≠ [] → (ns.length : Int) ≤ i - last - 1) := by
  intro ns
  induction ns with
  | nil => intro i last _; exact ⟨by simp, fun h => absurd rfl h⟩
  | cons n ns ih =>
    intro i last h
    simp only [risB, Bool.and_eq_true, decide_eq_true_eq] at h
    obtain ⟨⟨h1, h2⟩, h3⟩ := h
    obtain ⟨g1, g2⟩ := ih i n h3
    refine ⟨fun m hm => ?_, fun _ => ?_⟩
    · rcases List.mem_cons.1 hm with rfl | hm
      · exact ⟨h1, h2⟩
      · have := g1 m hm; omega
    · cases ns with
      | nil => simp; omega
      | cons a b => have := g2 (by simp); simp at this ⊢; omega
theorem mayP_spec {ps : List Pj} (h : mayP ps = true) : ps.length ≤ 24 ∧ ∀ k (hk : k < ps.length), 1 ≤ ps[k].tries ∧ ps[k].tries ≤ 5 ∧ 0 ≤ ps[k].limit ∧ ps[k].limit ≤ 1000 ∧ (∀ n ∈ ps[k].needs, 0 ≤ n ∧ n < k) ∧ ps[k].needs.length ≤ 24 := by
  simp only [mayP, Bool.and_eq_true, decide_eq_true_eq] at h
  refine ⟨h.1, fun k hk => ?_⟩
  have := jobsOkB_at ps 0 h.2 k hk
  simp only [jobOkB, Bool.and_eq_true, decide_eq_true_eq, Nat.zero_add] at this
  obtain ⟨⟨⟨⟨h1, h2⟩, h3⟩, h4⟩, h5⟩ := this
  obtain ⟨g1, g2⟩ := risB_spec _ _ _ h5
  refine ⟨h1, h2, h3, h4, fun n hn => by have := g1 n hn; omega, ?_⟩
  by_cases hn : ps[k].needs = []
  · rw [hn]; simp
  · have := g2 hn; omega
set_option maxHeartbeats 1000000 in
set_option maxRecDepth 6000 in
theorem may_ev {h : Hp} {v : Value} {ps : List Pj} (p : PlanR h v ps) :
    EvA Try.prog 76 [.agg #[v]] (fun r h' => r = .bool (mayP ps) ∧ Same h h') h := by
  refine EvA.body Try.func76 rfl (by kernel_rfl) (by simp) ?_
  apply Run.ok
  have hcv := (Row.one p.row.1).1
  have hov := (Row.one p.row.1).2
  simp [hcv, hov]
  have s1 : Same h (h ++ [.cells [v] false none]) := Same.new _
  have hB : (h ++ [Blk.cells [v] false none])[h.length]? = some (.cells [v] false none) := by simp
  generalize h ++ [Blk.cells [v] false none] = h1 at s1 hB ⊢
  have l1 : loadA Try.prog 48 (.pointer (some ⟨h.length, 0, none⟩)) h1 = some v := by rw [load_at hB (by simp)]; rfl
  have p1 := p.same s1
  have hl1 := p1.row.len (P := Try.prog) (t := 48) (e := 67) (by simp)
  by_cases c24 : 24 < ps.length
  · have c24' : (24 : Int) < ps.length := by omega
    have hm : mayP ps = false := by simp only [mayP]; rw [decide_eq_false (by omega)]; rfl
    simp [l1, hl1, c24', hm, -load_ptr]
    exact s1
  · have c24' : ¬ (24 : Int) < ps.length := by omega
    have hm : mayP ps = jobsOkB 0 ps := by simp only [mayP]; rw [decide_eq_true (by omega)]; rfl
    rw [hm]
    simp [l1, hl1, c24', -load_ptr]
    refine WpA.loop (fun z fr g => ∃ (i : Nat), z = ps.length - i ∧ i ≤ ps.length ∧ fr 13 = v ∧ fr 14 = .int .i64 (ps.length : Nat) ∧ fr 15 = .int .i64 (i : Nat) ∧ Same h g ∧ jobsOkB i (ps.drop i) = jobsOkB 0 ps)
      (k := ps.length) ⟨0, by simp, by omega, by simp, by simp, by simp, s1, by simp⟩ ?_
    clear s1 hB l1 p1 hl1
    rintro z fr g ⟨i, rfl, hi, f13, f14, f15, sm, hok⟩
    apply Run.ok
    by_cases c : i < ps.length
    · have c' : (i : Int) < ps.length := by omega
      have w1 : IntKind.i64.wrap ((i : Int) + 1) = (i : Int) + 1 := wrap_i64 (by omega) (by omega)
      have pg := p.same sm
      have ia := pg.row.ia (P := Try.prog) (t := 48) (e := 67) (by simp) (by simp) c .i64
      have ld := pg.row.agg (P := Try.prog) (e := 67) (by simp) (by simp) c
      have hmem : ps[i] ∈ ps := List.getElem_mem _
      have hnr := pg.nr _ hmem
      have hone := p.one _ hmem
      have hbn := p.big.2 _ hmem
      rw [List.drop_eq_getElem_cons c] at hok
      simp only [jobsOkB] at hok
      generalize ps[i] = y at ld hnr hone hok hbn
      obtain ⟨c0, nv, c2, c3, c4, c5, needs, tries, limit, manual⟩ := y
      simp only [Pj.cells] at ld hone hnr hok hbn
      simp only [List.all_cons, List.all_nil, Bool.and_eq_true, Bool.and_true] at hone
      obtain ⟨o0, o1, o2, o3, o4, o5, _, _, _⟩ := hone
      simp [f13, f14, f15, c', ia, ld, cellsOf, spl, o0, o1, o2, o3, o4, o5, -load_ptr]
      have sA : Same g (g ++ [.cells [c0, nv, c2, c3, c4, c5, .int .i64 tries, .int .i64 limit, .bool manual] false none]) := Same.new _
      have hsA : (g ++ [Blk.cells [c0, nv, c2, c3, c4, c5, .int .i64 tries, .int .i64 limit, .bool manual] false none])[g.length]? = some (.cells [c0, nv, c2, c3, c4, c5, .int .i64 tries, .int .i64 limit, .bool manual] false none) := by simp
      generalize g ++ [Blk.cells [c0, nv, c2, c3, c4, c5, .int .i64 tries, .int .i64 limit, .bool manual] false none] = gA at sA hsA ⊢
      have k1 : loadA Try.prog 35 (.pointer (some ⟨g.length, 1, none⟩)) gA = some nv := by rw [load_at hsA (by simp)]; rfl
      have k6 : loadA Try.prog 3 (.pointer (some ⟨g.length, 6, none⟩)) gA = some (.int .i64 tries) := by rw [load_at hsA (by simp)]; rfl
      have k7 : loadA Try.prog 3 (.pointer (some ⟨g.length, 7, none⟩)) gA = some (.int .i64 limit) := by rw [load_at hsA (by simp)]; rfl
      have smA := sm.trans sA
      have hnA := hnr.same sA
      have tn := hnA.len (P := Try.prog) (t := 35) (e := 3) (by simp)
      by_cases d1 : tries < 1
      · have : jobOkB i ⟨c0, nv, c2, c3, c4, c5, needs, tries, limit, manual⟩ = false := by
          simp only [jobOkB]; rw [decide_eq_false (by omega)]; rfl
        rw [this, Bool.false_and] at hok
        simp [k6, d1, ← hok, -load_ptr]
        exact smA
      by_cases d2 : 5 < tries
      · have : jobOkB i ⟨c0, nv, c2, c3, c4, c5, needs, tries, limit, manual⟩ = false := by
          simp only [jobOkB]; rw [decide_eq_false (show ¬ tries ≤ 5 by omega)]; simp
        rw [this, Bool.false_and] at hok
        simp [k6, d1, d2, ← hok, -load_ptr]
        exact smA
      by_cases d3 : limit < 0
      · have : jobOkB i ⟨c0, nv, c2, c3, c4, c5, needs, tries, limit, manual⟩ = false := by
          simp only [jobOkB]; rw [decide_eq_false (show ¬ 0 ≤ limit by omega)]; simp
        rw [this, Bool.false_and] at hok
        simp [k6, k7, d1, d2, d3, ← hok, -load_ptr]
        exact smA
      by_cases d4 : 1000 < limit
      · have : jobOkB i ⟨c0, nv, c2, c3, c4, c5, needs, tries, limit, manual⟩ = false := by
          simp only [jobOkB]; rw [decide_eq_false (show ¬ limit ≤ 1000 by omega)]; simp
        rw [this, Bool.false_and] at hok
        simp [k6, k7, d1, d2, d3, d4, ← hok, -load_ptr]
        exact smA
      have hjo : jobOkB i ⟨c0, nv, c2, c3, c4, c5, needs, tries, limit, manual⟩ = risB i (-1) needs := by
        simp only [jobOkB]; rw [decide_eq_true (by omega), decide_eq_true (by omega), decide_eq_true (by omega), decide_eq_true (by omega)]; rfl
      rw [hjo] at hok
      simp [k1, k6, k7, tn, d1, d2, d3, d4, -load_ptr]
      refine WpA.loop (fun z fr g => ∃ (q : Nat) (last : Int), z = needs.length - q ∧ q ≤ needs.length ∧ fr 13 = v ∧ fr 14 = .int .i64 (ps.length : Nat) ∧ fr 15 = .int .i64 (i : Nat) ∧ fr 3 = .int .i64 (i : Nat) ∧ fr 5 = .int .i64 last ∧ fr 39 = nv ∧ fr 40 = .int .i64 (needs.length : Nat) ∧ fr 41 = .int .i64 (q : Nat) ∧ g = gA ∧ risB i last (needs.drop q) = risB i (-1) needs)
        (k := needs.length) ⟨0, -1, by simp, by omega, by simp [f13], by simp [f14], by simp [f15], by simp, by simp, by simp, by simp, by simp, rfl, by simp⟩ ?_
      clear f13 f14 f15
      rintro z fr g' ⟨q, last, rfl, hq, f13, f14, f15, f3, f5, f39, f40, f41, rfl, hr⟩
      apply Run.ok
      by_cases e : q < needs.length
      · have e' : (q : Int) < needs.length := by omega
        have w2 : IntKind.i64.wrap ((q : Int) + 1) = (q : Int) + 1 := wrap_i64 (by omega) (by omega)
        have iaq := hnA.ia1 (P := Try.prog) (t := 35) (e := 3) (by simp) (by simp) e .i64
        have ldq := hnA.ld1 (P := Try.prog) (f := 3) (by simp) e
        rw [List.getElem?_map, List.getElem?_eq_getElem e] at ldq
        simp only [Option.map_some, intV] at ldq
        rw [List.drop_eq_getElem_cons e] at hr
        simp only [risB] at hr
        generalize needs[q] = x at ldq hr
        by_cases e1 : x ≤ last
        · rw [decide_eq_false (show ¬ last < x by omega), Bool.false_and, Bool.false_and] at hr
          rw [← hr, Bool.false_and] at hok
          simp [f13, f14, f15, f3, f5, f39, f40, f41, e', iaq, ldq, e1, ← hok, -load_ptr]
          exact smA
        · by_cases e2 : (i : Int) ≤ x
          · rw [decide_eq_false (show ¬ x < i by omega), Bool.and_false, Bool.false_and] at hr
            rw [← hr, Bool.false_and] at hok
            simp [f13, f14, f15, f3, f5, f39, f40, f41, e', iaq, ldq, e1, e2, ← hok, -load_ptr]
            exact smA
          · rw [decide_eq_true (show last < x by omega), decide_eq_true (show x < i by omega), Bool.true_and, Bool.true_and] at hr
            simp [f13, f14, f15, f3, f5, f39, f40, f41, e', iaq, ldq, e1, e2, w2, -load_ptr, -roundQ_normal, ↓rq]
            refine stop_intro ⟨needs.length - (q + 1), by omega, q + 1, x, rfl, by omega, by simp [f13], by simp [f14], by simp [f15], by simp [f3], by simp, by simp [f39], by simp [f40], by simp, rfl, hr⟩
      · have e' : ¬ (q : Int) < needs.length := by omega
        rw [List.drop_of_length_le (by omega)] at hr
        simp only [risB] at hr
        rw [← hr, Bool.true_and] at hok
        simp [f13, f14, f15, f40, f41, e', w1, -roundQ_normal, ↓rq]
        refine stop_intro ⟨ps.length - (i + 1), by omega, i + 1, rfl, by omega, by simp [f13], by simp [f14], by simp, smA, hok⟩
    · have c' : ¬ (i : Int) < ps.length := by omega
      rw [List.drop_of_length_le (by omega)] at hok
      simp only [jobsOkB] at hok
      simp [f13, f14, f15, c', ← hok]
      exact sm
end Go.Proofs.Ytklhioaokogpdaa
