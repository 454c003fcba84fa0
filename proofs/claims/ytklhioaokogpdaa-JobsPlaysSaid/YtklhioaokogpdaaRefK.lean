/- The document's jobs: which plans may be, truth values read, bytes, what is ready, late and over; no condition. -/
import Derived.Test.YtklhioaokogpdaaRefJ
namespace Go.Proofs.Ytklhioaokogpdaa
open Go.Ab
theorem rflag_o {h : Hp} {k m b : Nat} {o : Option (List UInt8)} (hr : RRO h k m b o) :
    EvA Try.prog 93 [.pointer (some ⟨b, 0, none⟩)] (fun r h' => r = .bool (flagO o).1 ∧ RRO h' k m b (flagO o).2 ∧ Upd (· = b) h h') h := by
  obtain ⟨hkb, hbm, v, hr, hv, hl⟩ := hr
  have hB := hr.1
  have hlt := hp_lt hB
  have hld : loadA Try.prog 22 (.pointer (some ⟨b, 0, none⟩)) h = some v := by simp [hB]
  have hlen := Bytes.len (P := Try.prog) (t := 22) (e := 5) hr.2.bytes (by simp)
  refine EvA.body Try.func93 rfl (by kernel_rfl) (by simp) ?_
  apply Run.ok
  have bad : ∀ (r : Value) (h3 : Hp), h3 = h.set b (.cells [.slice none 0 0, .bool true] false none) → RRO h3 k m b none ∧ Upd (· = b) h h3 := fun r h3 e => by
    subst e
    exact ⟨⟨hkb, hbm, .slice none 0 0, ⟨by simp [hlt], (BAcc.nil 0).sl⟩, fun j hj => (by obtain ⟨a, n, c, he, _⟩ := hj; cases he), by simp⟩, Upd.set (S := (· = b)) rfl _⟩
  cases o with
  | none =>
    have hl0 : lenA Try.prog 22 v h = some (.int .i64 0) := by simpa using hlen
    simp [hld, hl0, -load_ptr]
    refine after_call (fails_ev b v _ _ h hr) ?_
    rintro r h3 e
    simp
    exact ⟨rfl, bad r h3 e⟩
  | some l =>
    cases l with
    | nil =>
      have hl0 : lenA Try.prog 22 v h = some (.int .i64 0) := by simpa using hlen
      simp [hld, hl0, -load_ptr]
      refine after_call (fails_ev b v _ _ h hr) ?_
      rintro r h3 e
      simp
      exact ⟨rfl, bad r h3 e⟩
    | cons c r =>
      simp only [Option.getD_some, Option.isNone_some, List.length_cons] at *
      have e0 : (((r.length + 1 : Nat) : Int) == 0) = false := by simp; omega
      have ia := Row.ia1 (P := Try.prog) (t := 22) (e := 5) (k := 0) hr.2.bytes (by simp) (by simp) (by simp) .i64
      have ld : loadA Try.prog 5 (.pointer (some ⟨rbl v, rof v, none⟩)) h = some (.int .u8 (c.toNat : Nat)) := by
        have := Row.ld1 (P := Try.prog) (f := 5) (k := 0) hr.2.bytes (by simp) (by simp)
        simpa [byteV, -load_ptr] using this
      have ia0 : indexAddrA Try.prog 22 v (.int .i64 0) = some (.pointer (some ⟨rbl v, rof v, none⟩)) := by simpa using ia
      obtain ⟨q, hq⟩ : ∃ q : Nat, q = r.length + 1 := ⟨_, rfl⟩
      rw [← hq] at hlen e0
      by_cases c1 : c.toNat ≤ 1
      · have c1' : ¬ (1 : Int) < c.toNat := by omega
        have e1 : ((c.toNat : Int) == 1) = (c.toNat == 1) := by rw [Bool.eq_iff_iff]; simp; omega
        obtain ⟨v', s1, s2, s3⟩ := SlB.lo (P := Try.prog) (t := 22) (e := 5) (k := .i64) (m := 1) hr.2 (by simp) (by simp) (by simp)
        have s1' := s1 _ Same.refl
        have s1'' : sliceA Try.prog 22 v (some (.int .i64 1)) none none h = some v' := s1'
        have hcv := (Row.one s2.bytes).1
        have hov := (Row.one s2.bytes).2
        have hst : storeA Try.prog 22 (.pointer (some ⟨b, 0, none⟩)) v' h = some (h.set b (.cells [v', .bool false] false none)) := by simp [storeA, hB, hcv, hov, spl]
        have hfo : flagO (some (c :: r)) = (c.toNat == 1, some r) := by simp only [flagO, if_pos c1]
        rw [hfo]
        simp [hld, hlen, e0, ia0, ld, c1', e1, s1'', hst, -load_ptr, -store_ptr]
        have uS : Upd (· = b) h (h.set b (.cells [v', .bool false] false none)) := Upd.set (S := (· = b)) rfl _
        have s2' : SlB h v' r := by simpa using s2
        exact ⟨⟨hkb, hbm, v', ⟨by simp [hlt], s2'.upd uS fun j hj => (hv j (s3 j hj)).1⟩, fun j hj => hv j (s3 j hj), by simp; omega⟩, uS⟩
      · have c1' : (1 : Int) < c.toNat := by omega
        have hfo : flagO (some (c :: r)) = (false, none) := by simp only [flagO, if_neg c1]
        rw [hfo]
        simp [hld, hlen, e0, ia0, ld, c1', -load_ptr]
        refine after_call (fails_ev b v _ _ h hr) ?_
        rintro r h3 e
        simp
        exact bad r h3 e
set_option maxHeartbeats 1000000 in
set_option maxRecDepth 6000 in
theorem rmay_ev {h : Hp} {v : Value} {ps : List Pj} (p : PlanR h v ps) :
    EvA Try.prog 90 [.agg #[v]] (fun r h' => r = .bool (mayP ps) ∧ Same h h') h := by
  refine EvA.body Try.func90 rfl (by kernel_rfl) (by simp) ?_
  apply Run.ok
  have hcv := (Row.one p.row.1).1
  have hov := (Row.one p.row.1).2
  simp [hcv, hov]
  have s1 : Same h (h ++ [.cells [v] false none]) := Same.new _
  have hB : (h ++ [Blk.cells [v] false none])[h.length]? = some (.cells [v] false none) := by simp
  generalize h ++ [Blk.cells [v] false none] = h1 at s1 hB ⊢
  have l1 : ∀ g, Same h1 g → loadA Try.prog 48 (.pointer (some ⟨h.length, 0, none⟩)) g = some v := fun g s => by rw [load_at (s.at hB) (by simp)]; rfl
  have l11 := l1 _ Same.refl
  have p1 := p.same s1
  have hl1 := p1.row.len (P := Try.prog) (t := 48) (e := 67) (by simp)
  by_cases c24 : 24 < ps.length
  · have c24' : (24 : Int) < ps.length := by omega
    have hm : mayP ps = false := by simp only [mayP]; rw [decide_eq_false (by omega)]; rfl
    simp [l11, hl1, c24', hm, -load_ptr]
    exact s1
  · have c24' : ¬ (24 : Int) < ps.length := by omega
    have hm : mayP ps = jobsOkB 0 ps := by simp only [mayP]; rw [decide_eq_true (by omega)]; rfl
    rw [hm]
    simp [l11, hl1, c24', -load_ptr]
    refine WpA.loop (fun z fr g => ∃ (i : Nat), z = ps.length - i ∧ i ≤ ps.length ∧ fr 1 = .pointer (some ⟨h.length, 0, none⟩) ∧ fr 3 = .int .i64 (i : Nat) ∧ Same h g ∧ Same h1 g ∧ jobsOkB i (ps.drop i) = jobsOkB 0 ps)
      (k := ps.length) ⟨0, by simp, by omega, by simp, by simp, s1, Same.refl, by simp⟩ ?_
    clear s1 hB p1 hl1 l11
    rintro z fr g ⟨i, rfl, hi, f1, f3, sm, sh, hok⟩
    apply Run.ok
    have pg := p.same sm
    have lg := l1 _ sh
    have tg := pg.row.len (P := Try.prog) (t := 48) (e := 67) (by simp)
    by_cases c : i < ps.length
    · have c' : (i : Int) < ps.length := by omega
      have w1 : IntKind.i64.wrap ((i : Int) + 1) = (i : Int) + 1 := wrap_i64 (by omega) (by omega)
      have ia := PL_ia pg c
      have ld := pg.row.agg (P := Try.prog) (e := 67) (by simp) (by simp) c
      have hmem : ps[i] ∈ ps := List.getElem_mem _
      have hnr := pg.nr _ hmem
      have hone := p.one _ hmem
      have hbn := p.big.2 _ hmem
      rw [List.drop_eq_getElem_cons c] at hok
      simp only [jobsOkB] at hok
      generalize ps[i] = y at ld hnr hone hok hbn
      obtain ⟨c0, nv, c2, c3, c4, c5, needs, tries, limit, manual⟩ := y
      simp only [Pj.cells] at ld hone hnr hok hbn
      simp only [List.all_cons, List.all_nil, Bool.and_eq_true, Bool.and_true] at hone
      obtain ⟨o0, o1, o2, o3, o4, o5, _, _, _⟩ := hone
      simp [f1, f3, lg, tg, c', ia, ld, cellsOf, spl, o0, o1, o2, o3, o4, o5, -load_ptr]
      have sA : Same g (g ++ [.cells [c0, nv, c2, c3, c4, c5, .int .i64 tries, .int .i64 limit, .bool manual] false none]) := Same.new _
      have hsA : (g ++ [Blk.cells [c0, nv, c2, c3, c4, c5, .int .i64 tries, .int .i64 limit, .bool manual] false none])[g.length]? = some (.cells [c0, nv, c2, c3, c4, c5, .int .i64 tries, .int .i64 limit, .bool manual] false none) := by simp
      generalize g ++ [Blk.cells [c0, nv, c2, c3, c4, c5, .int .i64 tries, .int .i64 limit, .bool manual] false none] = gA at sA hsA ⊢
      have k1 : loadA Try.prog 35 (.pointer (some ⟨g.length, 1, none⟩)) gA = some nv := by rw [load_at hsA (by simp)]; rfl
      have k6 : loadA Try.prog 3 (.pointer (some ⟨g.length, 6, none⟩)) gA = some (.int .i64 tries) := by rw [load_at hsA (by simp)]; rfl
      have k7 : loadA Try.prog 3 (.pointer (some ⟨g.length, 7, none⟩)) gA = some (.int .i64 limit) := by rw [load_at hsA (by simp)]; rfl
      have smA := sm.trans sA
      have shA := sh.trans sA
      have hnA := hnr.same sA
      have tn := hnA.len (P := Try.prog) (t := 35) (e := 3) (by simp)
      by_cases d1 : tries < 1
      · have : jobOkB i ⟨c0, nv, c2, c3, c4, c5, needs, tries, limit, manual⟩ = false := by
          simp only [jobOkB]; rw [decide_eq_false (by omega)]; rfl
        rw [this, Bool.false_and] at hok
        simp [k6, d1, ← hok, -load_ptr]
        exact smA
      by_cases d2 : 5 < tries
      · have : jobOkB i ⟨c0, nv, c2, c3, c4, c5, needs, tries, limit, manual⟩ = false := by
          simp only [jobOkB]; rw [decide_eq_false (show ¬ tries ≤ 5 by omega)]; simp
        rw [this, Bool.false_and] at hok
        simp [k6, d1, d2, ← hok, -load_ptr]
        exact smA
      by_cases d3 : limit < 0
      · have : jobOkB i ⟨c0, nv, c2, c3, c4, c5, needs, tries, limit, manual⟩ = false := by
          simp only [jobOkB]; rw [decide_eq_false (show ¬ 0 ≤ limit by omega)]; simp
        rw [this, Bool.false_and] at hok
        simp [k6, k7, d1, d2, d3, ← hok, -load_ptr]
        exact smA
      by_cases d4 : 1000 < limit
      · have : jobOkB i ⟨c0, nv, c2, c3, c4, c5, needs, tries, limit, manual⟩ = false := by
          simp only [jobOkB]; rw [decide_eq_false (show ¬ limit ≤ 1000 by omega)]; simp
        rw [this, Bool.false_and] at hok
        simp [k6, k7, d1, d2, d3, d4, ← hok, -load_ptr]
        exact smA
      have hjo : jobOkB i ⟨c0, nv, c2, c3, c4, c5, needs, tries, limit, manual⟩ = risB i (-1) needs := by
        simp only [jobOkB]; rw [decide_eq_true (by omega), decide_eq_true (by omega), decide_eq_true (by omega), decide_eq_true (by omega)]; rfl
      rw [hjo] at hok
      simp [k6, k7, d1, d2, d3, d4, -load_ptr]
      refine WpA.loop (fun z fr gg => ∃ (q : Nat) (last : Int), z = needs.length - q ∧ q ≤ needs.length ∧ fr 1 = .pointer (some ⟨h.length, 0, none⟩) ∧ fr 3 = .int .i64 (i : Nat) ∧ fr 4 = .pointer (some ⟨g.length, 0, none⟩) ∧ fr 5 = .int .i64 (q : Nat) ∧ gg = gA ∧ risB i last (needs.drop q) = risB i (-1) needs ∧ ((q = 0 ∧ last = -1) ∨ (0 < q ∧ 0 ≤ last ∧ needs[q - 1]? = some last)))
        (k := needs.length) ⟨0, -1, by simp, by omega, by simp [f1], by simp [f3], by simp, by simp, rfl, by simp, .inl ⟨rfl, rfl⟩⟩ ?_
      clear f1 f3
      rintro z fr g' ⟨q, last, rfl, hq, f1, f3, f4, f5, rfl, hr, hla⟩
      apply Run.ok
      by_cases e : q < needs.length
      · have e' : (q : Int) < needs.length := by omega
        have w2 : IntKind.i64.wrap ((q : Int) + 1) = (q : Int) + 1 := wrap_i64 (by omega) (by omega)
        have iaq := hnA.ia1 (P := Try.prog) (t := 35) (e := 3) (by simp) (by simp) e .i64
        have ldq := hnA.ld1 (P := Try.prog) (f := 3) (by simp) e
        rw [List.getElem?_map, List.getElem?_eq_getElem e] at ldq
        simp only [Option.map_some, intV] at ldq
        rw [List.drop_eq_getElem_cons e] at hr
        simp only [risB] at hr
        have hnx : needs[q]? = some needs[q] := List.getElem?_eq_getElem e
        generalize needs[q] = x at ldq hr hnx
        simp [f1, f3, f4, f5, k1, tn, e', -load_ptr]
        refine WpA.drawnT [0, 1, 2, 3, 4, 5, 6, 7, 8, 9, 10, 11, 12, 13, 14, 15, 16, 17, 18, 19, 20, 21, 22, 23, 24, 25, 26, 27, 28, 29, 30, 31, 32] [] [[], [0], [], [0, 1, 2], [0, 1, 2, 3], [0, 1, 2, 3, 4], [0, 1, 2, 3, 4, 5], [0, 1, 2, 3, 4, 5, 6], [0, 1, 2, 3, 4, 5, 6, 7], [0, 1, 2, 3, 4, 5, 6], [0, 1, 2, 3, 4, 5, 6, 7, 8, 9], [0, 1, 2, 3, 4, 5, 6, 7, 8, 9, 10], [0, 1, 2, 3, 4, 5, 6], [0, 1, 2, 3, 4, 5, 6, 7, 8, 9, 10, 11, 12], [0, 1, 2, 3, 4, 5, 6, 7, 8, 9, 10, 11, 12, 13], [0, 1, 2, 3, 4, 5, 6, 7, 8, 9, 10, 11, 12, 13, 14], [0, 1, 2, 3, 4, 5, 6, 7, 8, 9, 10, 11, 12, 13, 14, 15], [0, 1, 2, 3, 4, 5, 6, 7, 8, 9, 10, 11, 12, 13, 14, 15, 16], [0, 1, 2, 3, 4, 5, 6, 7, 8, 9, 10, 11, 12, 13, 14, 15, 16, 17], [0, 1, 2, 3, 4, 5, 6, 7, 8, 9, 10, 11, 12, 13, 14, 15, 16, 17, 18], [0, 1, 2, 3, 4, 5, 6, 7, 8, 9, 10, 11, 12, 13, 14, 15, 16, 17, 18, 19], [0, 1, 2, 3, 4, 5, 6, 7, 8, 9, 10, 11, 12, 13, 14, 15, 16, 17, 18], [0, 1, 2, 3, 4, 5, 6, 7, 8, 9, 10, 11, 12, 13, 14, 15, 16, 17, 18, 19, 20, 21], [0, 1, 2, 3, 4, 5, 6, 7, 8, 9, 10, 11, 12, 13, 14, 15, 16, 17, 18, 19, 20, 21, 22], [0, 1, 2, 3, 4, 5, 6, 7, 8, 9, 10, 11, 12, 13, 14, 15, 16, 17, 18], [0, 1, 2, 3, 4, 5, 6, 7, 8, 9, 10, 11, 12, 13, 14, 15, 16, 17, 18, 24], [0, 1, 2, 3, 4, 5, 6, 7, 8, 9, 10, 11, 12, 13, 14, 15, 16, 17, 18], [0, 1, 2, 3, 4, 5, 6, 7, 8, 9, 10, 11, 12, 13, 14, 15, 16, 17, 18, 26], [0, 1, 2, 3, 4, 5, 6, 7, 8, 9, 10, 11, 12, 13, 14, 15, 16, 17, 18, 24, 25, 26, 27], [0, 1, 2, 3, 4, 5, 6, 7, 8, 9, 10, 11, 12, 13, 14, 15, 16, 17, 18, 24, 25, 26, 27, 28], [0, 1, 2, 3, 4, 5, 6, 7, 8, 9, 10, 11, 12, 13, 14, 15, 16, 17, 18, 19, 20, 21, 22, 23, 24, 25, 26, 27, 28, 29], [0, 1, 2, 3, 4, 5, 6, 7, 8, 9, 10, 11, 12, 13, 14, 15, 16, 17, 18, 19, 20, 21, 22, 23, 24, 25, 26, 27, 28, 29, 30], [0, 1, 2, 3, 4, 5, 6, 7, 8, 9, 10, 11, 12, 13, 14, 15, 16, 17, 18, 19, 20, 21, 22, 23, 24, 25, 26, 27, 28, 29, 30, 31]] (by kernel_rfl) (by decide +kernel) (by decide +kernel) (by decide +kernel) ?_
        by_cases e1 : x < 0
        · have hlt : ¬ last < x := by rcases hla with ⟨_, h⟩ | ⟨_, h, _⟩ <;> omega
          rw [decide_eq_false hlt, Bool.false_and, Bool.false_and] at hr
          rw [← hr, Bool.false_and] at hok
          simp [f1, f3, f4, f5, k1, iaq, ldq, e1, ← hok, -load_ptr]
          exact smA
        by_cases e2 : (i : Int) ≤ x
        · rw [decide_eq_false (show ¬ x < i by omega), Bool.and_false, Bool.false_and] at hr
          rw [← hr, Bool.false_and] at hok
          simp [f1, f3, f4, f5, k1, iaq, ldq, e1, e2, ← hok, -load_ptr]
          exact smA
        rw [decide_eq_true (show x < i by omega), Bool.and_true] at hr
        rcases hla with ⟨rfl, rfl⟩ | ⟨hq0, hl0, hlast⟩
        · rw [decide_eq_true (show (-1 : Int) < x by omega), Bool.true_and] at hr
          have iaq0 : indexAddrA Try.prog 35 nv (.int .i64 0) = some (.pointer (some ⟨rbl nv, rof nv, none⟩)) := by simpa using iaq
          have ldq0 : loadA Try.prog 3 (.pointer (some ⟨rbl nv, rof nv, none⟩)) g' = some (.int .i64 x) := by simpa using ldq
          simp [f1, f3, f4, f5, k1, iaq0, ldq0, e1, e2, -load_ptr, -roundQ_normal, ↓rq]
          exact stop_intro ⟨needs.length - 1, by omega, 1, x, rfl, by omega, by simp [f1], by simp [f3], by simp [f4], by simp, rfl, hr, .inr ⟨by omega, by omega, by simpa using hnx⟩⟩
        · have hq1 : q - 1 < needs.length := by omega
          have iap := hnA.ia1 (P := Try.prog) (t := 35) (e := 3) (by simp) (by simp) hq1 .i64
          have ldp := hnA.ld1 (P := Try.prog) (f := 3) (by simp) hq1
          rw [List.getElem?_map, hlast] at ldp
          simp only [Option.map_some, intV] at ldp
          obtain ⟨q1, hq1'⟩ : ∃ q1 : Nat, q1 = q - 1 := ⟨_, rfl⟩
          rw [← hq1'] at iap ldp
          have w3 : IntKind.i64.wrap ((q : Int) - 1) = (q1 : Int) := by rw [wrap_i64 (by omega) (by omega)]; omega
          have hq0' : (0 : Int) < q := by omega
          by_cases e3 : x ≤ last
          · rw [decide_eq_false (show ¬ last < x by omega), Bool.false_and] at hr
            rw [← hr, Bool.false_and] at hok
            simp [f1, f3, f4, f5, k1, iaq, ldq, iap, ldp, w3, hq0, hq0', e1, e2, e3, ← hok, -load_ptr]
            exact smA
          · rw [decide_eq_true (show last < x by omega), Bool.true_and] at hr
            simp [f1, f3, f4, f5, k1, iaq, ldq, iap, ldp, w3, hq0, hq0', e1, e2, e3, w2, -load_ptr, -roundQ_normal, ↓rq]
            exact stop_intro ⟨needs.length - (q + 1), by omega, q + 1, x, rfl, by omega, by simp [f1], by simp [f3], by simp [f4], by simp, rfl, hr, .inr ⟨by omega, by omega, by simpa using hnx⟩⟩
      · have e' : ¬ (q : Int) < needs.length := by omega
        rw [List.drop_of_length_le (by omega)] at hr
        simp only [risB] at hr
        rw [← hr, Bool.true_and] at hok
        simp [f1, f3, f4, f5, k1, tn, e', w1, -load_ptr, -roundQ_normal, ↓rq]
        exact stop_intro ⟨ps.length - (i + 1), by omega, i + 1, rfl, by omega, by simp [f1], by simp, smA, shA, hok⟩
    · have c' : ¬ (i : Int) < ps.length := by omega
      rw [List.drop_of_length_le (by omega)] at hok
      simp only [jobsOkB] at hok
      simp [f1, f3, lg, tg, c', ← hok, -load_ptr]
      exact sm
/-- values that have bytes -/
def ValOk (x : St) : Prop := x.s ≤ 255 ∧ (0 ≤ x.tried ∧ x.tried ≤ 2147483647) ∧ (0 ≤ x.badge ∧ x.badge ≤ 2147483647) ∧ (0 ≤ x.since ∧ x.since ≤ 2147483647) ∧ (0 ≤ x.code ∧ x.code ≤ 2147483647)
theorem cntB_in {n : Int} (h : 0 ≤ n ∧ n ≤ 2147483647) : cntB n = enc n.toNat := by unfold cntB; rw [if_neg (by omega)]
theorem enc_le10 {n : Nat} (h : n ≤ 2147483647) : (enc n).length ≤ 10 := by rw [enc_length]; exact grps_le _ (by omega)
theorem stB_len {x : St} (v : ValOk x) : (stB x).length ≤ 51 := by
  obtain ⟨v0, v1, v2, v3, v4⟩ := v
  have h0 := enc_le10 (n := x.s) (by omega)
  have h1 := enc_le10 (n := x.tried.toNat) (by omega)
  have h2 := enc_le10 (n := x.badge.toNat) (by omega)
  have h3 := enc_le10 (n := x.since.toNat) (by omega)
  have h4 := enc_le10 (n := x.code.toNat) (by omega)
  simp only [stB, List.length_append, List.length_cons, List.length_nil]
  omega
theorem stsB_len : ∀ (l : List St), (∀ x ∈ l, ValOk x) → (l.flatMap stB).length ≤ 51 * l.length := by
  intro l
  induction l with
  | nil => intro _; simp
  | cons x l ih =>
    intro h
    have := ih fun y hy => h y (List.mem_cons_of_mem _ hy)
    have := stB_len (h x (List.mem_cons_self ..))
    simp only [List.flatMap_cons, List.length_append, List.length_cons]; omega
theorem rflag_lay_ev (v : Value) (l : List UInt8) (p : Bool) (h : Hp) (hb : Bytes h v l) (hl : l.length < 1099511627000) :
    EvA Try.prog 132 [v, .bool p] (fun r h' => BAcc h.length h' r (l ++ [if p then 1 else 0]) ∧ Same h h') h := by
  refine EvA.body Try.func132 rfl (by kernel_rfl) (by simp) ?_
  apply Run.ok
  cases p with
  | true =>
    simp
    refine after_call (behind_ev v l ⟨#[1]⟩ h hb (by omega) (by decide)) ?_
    rintro r h' ⟨q1, q2⟩
    simp
    exact ⟨by simpa using q1, q2⟩
  | false =>
    simp
    refine after_call (behind_ev v l ⟨#[0]⟩ h hb (by omega) (by decide)) ?_
    rintro r h' ⟨q1, q2⟩
    simp
    exact ⟨by simpa using q1, q2⟩
section
variable {h h' : Hp} {k c : Nat} {pv rv : Value} {l : List St} {S : Nat → Prop} {ps : List Pj} {js : List Jb}
set_option maxHeartbeats 1000000 in
theorem rjbytes_ev (m : RJ h k c pv rv l) (h24 : l.length ≤ 24) (hv : ∀ x ∈ l, ValOk x) :
    EvA Try.prog 96 [.pointer (some ⟨c, 0, none⟩)] (fun r h' => BAcc h.length h' r (l.flatMap stB) ∧ Same h h') h := by
  refine EvA.body Try.func96 rfl (by kernel_rfl) (by simp) ?_
  apply Run.ok
  simp
  refine WpA.loop (fun z fr g => ∃ (n : Nat) (a : Value), z = l.length - n ∧ n ≤ l.length ∧ fr 0 = .pointer (some ⟨c, 0, none⟩) ∧ fr 3 = a ∧ fr 4 = .int .i64 (n : Nat) ∧ Same h g ∧ BAcc h.length g a ((l.take n).flatMap stB))
    (k := l.length) ⟨0, _, by simp, by omega, by simp, rfl, by simp, Same.refl, by simpa using BAcc.nil _⟩ ?_
  rintro z fr g ⟨n, a, rfl, hn, f0, f3, f4, sm, A⟩
  apply Run.ok
  have M := m.same sm
  have l0 := M.l0
  have tl := M.tl
  by_cases d : n < l.length
  · have d' : (n : Int) < l.length := by omega
    have w1 : IntKind.i64.wrap ((n : Int) + 1) = (n : Int) + 1 := wrap_i64 (by omega) (by omega)
    have ia := RS_ia M.t d
    have ag := RS_ag M.t d
    have htk : l.take (n + 1) = l.take n ++ [l.getD n St.no] := by rw [List.take_add_one, List.getElem?_eq_getElem d, getD_at l St.no d]; rfl
    have hx : ValOk (l.getD n St.no) := by rw [← getD_at l St.no d]; exact hv _ (List.getElem_mem d)
    have hlen := stsB_len (l.take n) fun x hx => hv x (List.mem_of_mem_take hx)
    rw [List.length_take, Nat.min_eq_left hn] at hlen
    have hsx := stB_len hx
    generalize l.getD n St.no = x at ag htk hx hsx
    obtain ⟨v0, v1, v2, v3, v4⟩ := hx
    have hs0 : cntB (x.s : Nat) = enc x.s := cntB_in (by omega)
    have hs1 := cntB_in v1
    have hs2 := cntB_in v2
    have hs3 := cntB_in v3
    have hs4 := cntB_in v4
    have e0 := enc_le10 (n := x.s) (by omega)
    have e1 := enc_le10 (n := x.tried.toNat) (by omega)
    have e2 := enc_le10 (n := x.badge.toNat) (by omega)
    have e3 := enc_le10 (n := x.since.toNat) (by omega)
    have e4 := enc_le10 (n := x.code.toNat) (by omega)
    have ws : IntKind.i64.wrap (x.s : Int) = (x.s : Int) := wrap_i64 (by omega) (by omega)
    rw [stA_cells] at ag
    simp [f0, f3, f4, l0, tl, d', ia, ag, cellsOf, spl, -load_ptr]
    have sA : Same g (g ++ [.cells x.cells false none]) := Same.new _
    have hsA : (g ++ [Blk.cells x.cells false none])[g.length]? = some (.cells x.cells false none) := by simp
    rw [stA_cells] at sA hsA
    generalize g ++ [Blk.cells [.int .u8 (x.s : Nat), .int .i64 x.tried, .int .i64 x.badge, .int .i64 x.since, .int .i64 x.code, .bool x.played] false none] = gA at sA hsA ⊢
    have k0 : ∀ g', Same gA g' → loadA Try.prog 5 (.pointer (some ⟨g.length, 0, none⟩)) g' = some (.int .u8 (x.s : Nat)) := fun g' s => by rw [load_at (s.at hsA) (by simp)]; rfl
    have k1 : ∀ g', Same gA g' → loadA Try.prog 3 (.pointer (some ⟨g.length, 1, none⟩)) g' = some (.int .i64 x.tried) := fun g' s => by rw [load_at (s.at hsA) (by simp)]; rfl
    have k2 : ∀ g', Same gA g' → loadA Try.prog 3 (.pointer (some ⟨g.length, 2, none⟩)) g' = some (.int .i64 x.badge) := fun g' s => by rw [load_at (s.at hsA) (by simp)]; rfl
    have k3 : ∀ g', Same gA g' → loadA Try.prog 3 (.pointer (some ⟨g.length, 3, none⟩)) g' = some (.int .i64 x.since) := fun g' s => by rw [load_at (s.at hsA) (by simp)]; rfl
    have k4 : ∀ g', Same gA g' → loadA Try.prog 3 (.pointer (some ⟨g.length, 4, none⟩)) g' = some (.int .i64 x.code) := fun g' s => by rw [load_at (s.at hsA) (by simp)]; rfl
    have k5 : ∀ g', Same gA g' → loadA Try.prog 4 (.pointer (some ⟨g.length, 5, none⟩)) g' = some (.bool x.played) := fun g' s => by rw [load_at (s.at hsA) (by simp)]; rfl
    have smA := sm.trans sA
    simp [f3, k0 _ Same.refl, ws, -load_ptr]
    refine after_call (rcount_lay_ev a _ (x.s : Nat) gA (A.same sA).row (by omega)) ?_
    rintro r g1 ⟨A1, s1⟩
    rw [hs0] at A1
    simp [k1 _ s1, -load_ptr]
    refine after_call (rcount_lay_ev r _ x.tried g1 A1.row (by simp only [List.length_append]; omega)) ?_
    rintro r g2 ⟨A2, s2'⟩
    have s2 := s1.trans s2'
    rw [hs1] at A2
    simp [k2 _ s2, -load_ptr]
    refine after_call (rcount_lay_ev r _ x.badge g2 A2.row (by simp only [List.length_append]; omega)) ?_
    rintro r g3 ⟨A3, s3'⟩
    have s3 := s2.trans s3'
    rw [hs2] at A3
    simp [k3 _ s3, -load_ptr]
    refine after_call (rcount_lay_ev r _ x.since g3 A3.row (by simp only [List.length_append]; omega)) ?_
    rintro r g4 ⟨A4, s4'⟩
    have s4 := s3.trans s4'
    rw [hs3] at A4
    simp [k4 _ s4, -load_ptr]
    refine after_call (rcount_lay_ev r _ x.code g4 A4.row (by simp only [List.length_append]; omega)) ?_
    rintro r g5 ⟨A5, s5'⟩
    have s5 := s4.trans s5'
    rw [hs4] at A5
    simp [k5 _ s5, -load_ptr]
    refine after_call (rflag_lay_ev r _ x.played g5 A5.row (by simp only [List.length_append]; omega)) ?_
    rintro r g6 ⟨A6, s6'⟩
    have s6 := s5.trans s6'
    simp [f0, f4, w1, -roundQ_normal, ↓rq]
    refine stop_intro ⟨l.length - (n + 1), by omega, n + 1, r, rfl, by omega, by simp [f0], by simp, by simp, smA.trans s6, ?_⟩
    rw [htk, List.flatMap_append, List.flatMap_singleton, stB]
    have hk := smA.len
    have hk2 := s5.len
    have := BAcc.down (show h.length ≤ g5.length by omega) A6
    simpa only [List.append_assoc] using this
  · have d' : ¬ (n : Int) < l.length := by omega
    rw [List.take_of_length_le (by omega)] at A
    simp [f0, f3, f4, l0, tl, d', -load_ptr]
    exact ⟨A, sm⟩
end
end Go.Proofs.Ytklhioaokogpdaa
