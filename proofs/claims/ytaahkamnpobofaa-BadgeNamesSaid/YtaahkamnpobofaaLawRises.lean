/- The law BadgeRises: called, it comes to true; no condition. -/
import Derived.Test.YtaahkamnpobofaaBadgeG
import Derived.Test.YtaahkamnpobofaaHeard0
namespace Go.Proofs.Ytaahkamnpobofaa
open Go.Ab
theorem atL_iff {L : List Bd} {q : Int} : atL L q = none ↔ ∀ x ∈ L, x.no ≠ q := by
  rw [atL, List.find?_eq_none]
  simp
theorem atL_beat (L : List Bd) (q now e : Int) : atL (beatL L q now) e = none ↔ atL L e = none := by
  rw [atL_iff, atL_iff]
  constructor
  · intro h x hx
    have := h _ (List.mem_map.2 ⟨x, hx, rfl⟩)
    rwa [beat_no L] at this
  · intro h y hy
    obtain ⟨x, hx, rfl⟩ := List.mem_map.1 hy
    rw [beat_no L]; exact h x hx
/-- what was gone stays gone -/
theorem doL_gone {last : Int} {L : List Bd} (s : St5) {q : Int} (hq : q ≤ last) (h : atL L q = none) : atL (doL last L s) q = none := by
  unfold doL
  split
  · unfold giveL
    split
    · rw [atL_iff] at h ⊢
      intro x hx
      rcases List.mem_append.1 hx with e | e
      · exact h x e
      · simp only [List.mem_singleton] at e; subst e; simp only [Bd.as]; omega
    · exact h
  · split
    · split
      · rw [atL_beat]; exact h
      · exact h
    · split
      · rw [atL_iff] at h ⊢
        intro x hx
        exact h x (List.mem_filter.1 hx).1
      · exact h
theorem doT_le {last : Int} (L : List Bd) (s : St5) : last ≤ doT last L s ∧ doT last L s ≤ last + 1 := by
  unfold doT giveT
  split
  · split <;> omega
  · omega
theorem doN_T {last : Int} (L : List Bd) (s : St5) (h0 : 0 ≤ last) : (doN last L s = 0 ∧ doT last L s = last) ∨ (doN last L s = last + 1 ∧ doT last L s = last + 1) := by
  unfold doN doT giveN giveT
  split
  · split
    · exact .inr ⟨rfl, rfl⟩
    · exact .inl ⟨rfl, rfl⟩
  · exact .inl ⟨rfl, rfl⟩
theorem cutRun2 {P : Program} {n : Nat} {C : Code} {Q : QA} {F : Fr → Hp → Prop} {G : Prop} (main : (∀ fr g, F fr g → Run P n C Q fr g) → G) (key : ∀ fr g, F fr g → Run P n C Q fr g) : G := main key
/-- the round of the steps -/
inductive RisesInv (g : Hp) (k m0 : Nat) (v : Value) (l : List St5) (z : Nat) (fr : Fr) (g' : Hp) : Prop
  | mk (i d b : Nat) (T : Int) (L : List Bd) (dv : Value) (D : List Int) (hz : z = l.length - i) (hi : i ≤ l.length) (hT0 : 0 ≤ T) (hT1 : T ≤ m0 + i) (f0 : fr 0 = .int .i64 T) (f1 : fr 1 = v) (f5 : fr 5 = .pointer (some ⟨d, 0, none⟩)) (f6 : fr 6 = dv) (f7 : fr 7 = .int .i64 (i : Nat))
      (r : DeskR g' k d b T L) (sm : Same g g') (A : Acc k g' 1 dv D.length (D.map fun n => .int .i64 n)) (hD : D.length ≤ i) (ap : ∀ j, inRow dv j → j ≠ d ∧ j ≠ b) (gone : ∀ q ∈ D, q ≤ T ∧ atL L q = none)
abbrev SRow5 (h : Hp) (v : Value) (l : List St5) : Prop := TRow h 5 v l St5.cells
section
variable {h g : Hp} {v : Value} {l : List St5} {i : Nat}
theorem SLen (hv : SRow5 h v l) : lenA Try.prog 67 v h = some (.int .i64 (l.length : Nat)) := hv.len (e := 71) (by simp)
theorem SIA (hv : SRow5 h v l) (hi : i < l.length) : indexAddrA Try.prog 67 v (.int .i64 (i : Nat)) = some (.pointer (some ⟨rbl v, rof v + i * 5, none⟩)) := hv.ia (e := 71) (by simp) (by simp) hi .i64
theorem SAG (hv : SRow5 h v l) (hi : i < l.length) : loadA Try.prog 71 (.pointer (some ⟨rbl v, rof v + i * 5, none⟩)) h = some (.agg #[.int .i64 l[i].k, .int .i64 l[i].a, .int .i64 l[i].b, .int .i64 l[i].c, .int .i64 l[i].d]) := hv.agg (by simp) (by simp) hi
theorem SC0 (hv : SRow5 h v l) (hi : i < l.length) : loadA Try.prog 3 (.pointer (some ⟨rbl v, rof v + i * 5, none⟩)) h = some (.int .i64 l[i].k) := hv.cell0 (by simp) hi (by omega)
theorem SC1 (hv : SRow5 h v l) (hi : i < l.length) : loadA Try.prog 3 (.pointer (some ⟨rbl v, rof v + i * 5 + 1, none⟩)) h = some (.int .i64 l[i].a) := hv.cell (j := 1) (by simp) hi (by omega)
set_option maxHeartbeats 8000000 in
set_option maxRecDepth 10000 in
theorem rises26_ev (last0 : Int) (hv : SRow5 h v l) :
    EvA Try.prog 9 [.int .i64 last0, v] (fun r _ => r = .bool true) h := by
  refine EvA.body Try.func9 rfl (by kernel_rfl) (by simp) ?_
  apply Run.ok
  have wl := SLen hv
  simp
  refine after_call (works26_ev _) ?_
  rintro r g ⟨rfl, rfl⟩
  by_cases c0 : 120 < l.length
  · have c0' : (120 : Int) < l.length := by omega
    simp [wl, c0']
    refine after_call (works26_ev _) ?_
    rintro r g ⟨rfl, rfl⟩
    simp
  have c0' : ¬ (120 : Int) < l.length := by omega
  obtain ⟨q0, hq0, _⟩ := u64nat last0
  have t0 : ((q0 : Nat) : Int).tmod 1073741824 = ((q0 % 1073741824 : Nat) : Int) := tmod_nat q0 1073741824
  obtain ⟨m0, hm0⟩ : ∃ m0, m0 = q0 % 1073741824 := ⟨_, rfl⟩
  rw [← hm0] at t0
  have hm1 : m0 < 1073741824 := by omega
  have w0 : IntKind.i64.wrap ((m0 : Nat) : Int) = (m0 : Int) := wrap_i64 (by omega) (by omega)
  simp [wl, c0', hq0, t0, w0]
  refine after_call (new26_ok _ (by omega) (by omega)) ?_
  rintro w g0 ⟨rfl, r, sm⟩
  obtain ⟨k, hk⟩ : ∃ k, k = g.length := ⟨_, rfl⟩
  rw [← hk] at r ⊢
  have hk2 : k + 1 < g0.length := r.lt.1
  simp
  refine WpA.loop (RisesInv g k m0 v l)
    (k := l.length) ⟨0, k + 1, k, m0, [], .slice none 0 0, [], by simp, by omega, by omega, by omega, by simp, by simp, by simp, by simp, by simp, r, sm, Acc.nil _, by simp, fun j hj => (by obtain ⟨a, n, c, he, _⟩ := hj; cases he), by simp⟩ ?_
  clear r sm
  rintro z fr g' ⟨i, d, b, T, L, dv, D, rfl, hi, hT0, hT1, f0, f1, f5, f6, f7, r, sm, A, hD, hapart, hgone⟩
  apply Run.ok
  have wl' := SLen (hv.same sm)
  by_cases c : i < l.length
  · have c' : (i : Int) < l.length := by omega
    have w3 : IntKind.i64.wrap ((i : Int) + 1) = (i : Int) + 1 := wrap_i64 (by omega) (by omega)
    have ia := SIA (hv.same sm) c
    have s1 := SC1 (hv.same sm) c
    simp [f1, f5, f7, wl', c', ia, s1, -load_ptr]
    refine after_call (checkC_ev r l[i].a) ?_
    rintro w g1 ⟨rfl, sc⟩
    have r1 := r.same sc
    have sm1 := sm.trans sc
    obtain ⟨hx, he, _⟩ := checkV_is (atL L l[i].a)
    rw [he]
    have sn : Same g1 (g1 ++ [Blk.cells [.int .i64 hx.pipe, .int .i64 hx.job, .int .i64 hx.runner, .int .i64 hx.heard] false none]) := Same.new _
    have r2 := r1.same sn
    have sm2 := sm1.trans sn
    have A2 := (A.same sc).same sn
    generalize hG : g1 ++ [Blk.cells [Value.int .i64 hx.pipe, .int .i64 hx.job, .int .i64 hx.runner, .int .i64 hx.heard] false none] = g2 at r2 sm2 A2
    have ia2 := SIA (hv.same sm2) c
    have ag2 := SAG (hv.same sm2) c
    simp [f1, f5, f7, spl, hG, ia2, ag2, -load_ptr]
    refine after_call (do_ev r2 l[i]) ?_
    rintro w g3 ⟨d', b', rfl, r3, u3, hdb⟩
    have hk3 := r2.lt
    have sm3 : Same g g3 := Upd.trans sm2 u3 fun j hj e => by have := r2.kd; have := r2.kb; omega
    have A3 := A2.upd u3 fun j hj e => by have := hapart j hj; omega
    have ap3 : ∀ j, inRow dv j → j ≠ d' ∧ j ≠ b' := fun j hj => by
      have := hapart j hj
      have := (A2.above j hj).2
      omega
    obtain ⟨T', hT'⟩ : ∃ T', T' = doT T L l[i] := ⟨_, rfl⟩
    obtain ⟨L', hL'⟩ : ∃ L', L' = doL T L l[i] := ⟨_, rfl⟩
    have hTT := doT_le (last := T) L l[i]
    have hNT := doN_T L l[i] hT0
    have hg' : ∀ q ∈ D, q ≤ T' ∧ atL L' q = none := fun q hq => ⟨by have := (hgone q hq).1; omega, by rw [hL']; exact doL_gone _ (hgone q hq).1 (hgone q hq).2⟩
    rw [← hT'] at r3 hTT hNT
    rw [← hL'] at r3
    have ll := r3.ldl
    have w4 : IntKind.i64.wrap (T + 1) = T + 1 := wrap_i64 (by omega) (by omega)
    have ia3 := SIA (hv.same sm3) c
    have k3 := SC0 (hv.same sm3) c
    have a3 := SC1 (hv.same sm3) c
    apply cutRun2 (F := fun fr g' => ∃ (dv' : Value) (D' : List Int), fr 0 = .int .i64 T' ∧ fr 1 = v ∧ fr 5 = .pointer (some ⟨d', 0, none⟩) ∧ fr 6 = dv' ∧ fr 7 = .int .i64 (i : Nat) ∧ fr 13 = .int .i64 0 ∧
      DeskR g' k d' b' T' L' ∧ Same g g' ∧ Acc k g' 1 dv' D'.length (D'.map fun n => .int .i64 n) ∧ D'.length ≤ i + 1 ∧ (∀ j, inRow dv' j → j ≠ d' ∧ j ≠ b') ∧ ∀ q ∈ D', q ≤ T' ∧ atL L' q = none)
    · intro key
      have hfin : (fun (n : Int) => Value.int .i64 n) = fun n => .int .i64 n := rfl
      by_cases k2 : l[i].k = 2 ∧ checkE (atL L l[i].a) = 0
      · obtain ⟨k2, e2⟩ := k2
        obtain ⟨x, hxa⟩ : ∃ x, atL L l[i].a = some x := by
          cases hq : atL L l[i].a with
          | none => rw [hq] at e2; cases e2
          | some x => exact ⟨x, rfl⟩
        have hmem := atL_mem hxa
        have hno := (r.ok.nos x hmem.1).2
        have hLd : L' = dropL L l[i].a := by rw [hL']; simp [doL, k2]
        have hTd : T' = T := by rw [hT']; simp [doT, k2]
        have hNd : doN T L l[i] = 0 := by simp [doN, k2]
        have hga : l[i].a ≤ T' ∧ atL L' l[i].a = none := by
          refine ⟨by rw [← hmem.2]; omega, ?_⟩
          rw [hLd, atL_iff]
          intro y hy e
          have := (List.mem_filter.1 hy).2
          simp [e] at this
        obtain ⟨o', g', e1, A', u', ap'⟩ := appI4 A3 (by have := r3.kd; have := r3.lt; omega) (by omega) l[i].a
        have r4 := (r3.same (Same.new [Blk.cells [.int .i64 l[i].a] false none])).upd u' (fun e => by have := ap3 d' e; omega) (fun e => by have := ap3 b' e; omega)
        have sm4 : Same g g' := Upd.trans (sm3.trans (Same.new [Blk.cells [.int .i64 l[i].a] false none])) u' fun j hj e => by have := (A3.above j e).1; omega
        have ll4 := r4.ldl
        have hT0' : ¬ (0 : Int) < 0 := by omega
        simp [f1, f6, f7, hNd, ia3, k3, a3, k2, e2, zeros, spl, capO, e1, -load_ptr]
        refine after_call (last26_ev r4) ?_
        rintro w g5 ⟨rfl, rfl⟩
        simp [f0, hTd, -load_ptr, -Run_block']
        refine key _ _ ?_
        refine ⟨o', D ++ [l[i].a], by simp [f0, hTd], by simp [f1], by simp, by simp, by simp [f7], by simp, r4, sm4, by simpa using A', by simp; omega, fun j hj => ?_, fun q hq => ?_⟩
        · rcases ap' j hj with e | e
          · exact ap3 j e
          · have := r3.lt; omega
        · rcases List.mem_append.1 hq with e | e
          · exact hg' q e
          · simp only [List.mem_singleton] at e; subst e; exact hga
      · have ll3 := r3.ldl
        have hdo : D.length ≤ i + 1 := by omega
        have hcond : (Value.bool (if (l[i].k == 2) = true then (checkE (atL L l[i].a) == 0) else false)) = .bool false := by
          by_cases q1 : l[i].k = 2
          · have q2 : ¬ checkE (atL L l[i].a) = 0 := fun e => k2 ⟨q1, e⟩
            simp [q1, q2]
          · simp [q1]
        rcases hNT with ⟨n1, n2⟩ | ⟨n1, n2⟩
        · by_cases q1 : l[i].k = 2
          · have q2 : ¬ checkE (atL L l[i].a) = 0 := fun e => k2 ⟨q1, e⟩
            have q2' : (checkE (atL L l[i].a) == 0) = false := by simpa using q2
            simp [f1, f7, n1, ia3, k3, q1, q2', -load_ptr]
            refine after_call (last26_ev r3) ?_
            rintro w g5 ⟨rfl, rfl⟩
            simp [f0, n2, -load_ptr, -Run_block']
            refine key _ _ ?_
            exact ⟨dv, D, by simp [f0, n2], by simp [f1], by simp, by simp [f6], by simp [f7], by simp, r3, sm3, A3, hdo, ap3, hg'⟩
          · have q1' : (l[i].k == 2) = false := by simpa using q1
            simp [f1, f7, n1, ia3, k3, q1', -load_ptr]
            refine after_call (last26_ev r3) ?_
            rintro w g5 ⟨rfl, rfl⟩
            simp [f0, n2, -load_ptr, -Run_block']
            refine key _ _ ?_
            exact ⟨dv, D, by simp [f0, n2], by simp [f1], by simp, by simp [f6], by simp [f7], by simp, r3, sm3, A3, hdo, ap3, hg'⟩
        · have hpos : 0 < T + 1 := by omega
          by_cases q1 : l[i].k = 2
          · have : doN T L l[i] = 0 := by simp [doN, q1]
            omega
          · have q1' : (l[i].k == 2) = false := by simpa using q1
            simp [f0, f1, f7, n1, w4, hpos, ia3, k3, q1', -load_ptr]
            refine after_call (last26_ev r3) ?_
            rintro w g5 ⟨rfl, rfl⟩
            simp [n2, -load_ptr, -Run_block']
            refine key _ _ ?_
            exact ⟨dv, D, by simp [n2], by simp [f1], by simp, by simp [f6], by simp [f7], by simp, r3, sm3, A3, hdo, ap3, hg'⟩
    · rintro fr g4 ⟨dv', D', f0, f1, f5, f6, f7, f13, r4, sm4, A4, hD4, ap4, hg4⟩
      simp
      refine WpA.loop (fun z fr g' => ∃ (j : Nat), z = D'.length - j ∧ j ≤ D'.length ∧ fr 0 = .int .i64 T' ∧ fr 1 = v ∧ fr 5 = .pointer (some ⟨d', 0, none⟩) ∧ fr 6 = dv' ∧ fr 7 = .int .i64 (i : Nat) ∧ fr 13 = .int .i64 (j : Nat) ∧
          DeskR g' k d' b' T' L' ∧ Same g g' ∧ Acc k g' 1 dv' D'.length (D'.map fun n => .int .i64 n))
        (k := D'.length) ⟨0, by simp, by omega, f0, f1, f5, f6, f7, by simp [f13], r4, sm4, A4⟩ ?_
      clear f0 f1 f5 f6 f7 f13 r4 sm4 A4
      rintro z fr g5 ⟨j, rfl, hj, f0, f1, f5, f6, f7, f13, r4, sm4, A4⟩
      apply Run.ok
      have wd := NLen A4
      by_cases e : j < D'.length
      · have e' : (j : Int) < D'.length := by omega
        have w5 : IntKind.i64.wrap ((j : Int) + 1) = (j : Int) + 1 := wrap_i64 (by omega) (by omega)
        have ib := NIA A4 e
        have lb := NLD A4 e
        rw [List.getElem?_map, List.getElem?_eq_getElem e, Option.map_some] at lb
        have hq := hg4 D'[j] (List.getElem_mem _)
        generalize hqd : D'[j] = q at lb hq
        simp [f5, f6, f13, wd, e', ib, lb, -load_ptr]
        refine after_call (checkC_ev r4 q) ?_
        rintro w g6 ⟨rfl, s6⟩
        rw [hq.2]
        have sn6 : Same g5 (g6 ++ [Blk.cells [.int .i64 0, .int .i64 0, .int .i64 0, .int .i64 0] false none]) := s6.trans (Same.new _)
        have r6 := r4.same sn6
        have sm6 := sm4.trans sn6
        have A6 := A4.same sn6
        have ib6 := NIA A6 e
        have lb6 := NLD A6 e
        rw [List.getElem?_map, List.getElem?_eq_getElem e, Option.map_some, hqd] at lb6
        have hz : checkV none = .tuple #[zeroH, .int .i64 60] := rfl
        have hzH : zeroH = .agg #[.int .i64 0, .int .i64 0, .int .i64 0, .int .i64 0] := rfl
        have hb60 : beatE L' q 1 = 60 := by simp [beatE, wi, hq.2]
        rw [hz, hzH]
        simp [spl, f5, f6, f13, ib6, lb6, -load_ptr]
        refine after_call (beat_ev r6 q 1) ?_
        rintro w g7 ⟨rfl, r7, u7⟩
        rw [hb60, if_neg (by decide)] at r7
        rw [hb60]
        have A7 := A6.upd u7 fun j hj e => (ap4 j hj).2 e
        have sm7 : Same g g7 := Upd.trans sm6 u7 fun j hj e => by have := r6.kb; have := r6.lt; omega
        simp [f13, w5, -load_ptr]
        exact ⟨D'.length - (j + 1), by omega, j + 1, rfl, by omega, by simp [f0], by simp [f1], by simp [f5], by simp [f6], by simp [f7], by simp, r7, sm7, A7⟩
      · have e' : ¬ (j : Int) < D'.length := by omega
        have w3 : IntKind.i64.wrap ((i : Int) + 1) = (i : Int) + 1 := wrap_i64 (by omega) (by omega)
        simp [f6, f7, f13, wd, e', w3, -load_ptr, -roundQ_normal, ↓rq]
        exact stop_intro ⟨l.length - (i + 1), by omega, i + 1, d', b', T', L', dv', D', rfl, by omega, by omega, by omega, by simp [f0], by simp [f1], by simp [f5], by simp [f6], by simp, r4, sm4, A4, by omega, ap4, hg4⟩
  · have c' : ¬ (i : Int) < l.length := by omega
    simp [f1, f7, wl', c', -load_ptr]
end
theorem badgeRises_ev (h : Hp) (vs : List Value) (dts : List Dt) (hr : RepAll Try.prog h 6 [3, 67] vs dts) : EvA Try.prog 9 vs (fun r _ => r = .bool true) h := by
  obtain ⟨a, vs, d, ds, rfl, rfl, h1, hr⟩ := hr.cons
  obtain ⟨b, vs, e, ds, rfl, rfl, h2, hr⟩ := hr.cons
  rw [hr.nil]
  obtain ⟨n, rfl, _⟩ := h1.int (q := .i64) (by simp)
  obtain ⟨l, l1, l2, l3, l4⟩ := h2.slice (e := 71) (z := 5) St5.cells (fun _ => True) (by simp) (by kernel_rfl)
    (fun k x d _ hx => by
      obtain ⟨k, hf⟩ := hx.struct (by simp; rfl)
      simp only [RepFs] at hf
      obtain ⟨x0, d0, _, rfl, r0, x1, d1, _, rfl, r1, x2, d2, _, rfl, r2, x3, d3, _, rfl, r3, x4, d4, _, rfl, r4, rfl⟩ := hf
      obtain ⟨n0, rfl, _⟩ := r0.int (q := .i64) (by simp)
      obtain ⟨n1, rfl, _⟩ := r1.int (q := .i64) (by simp)
      obtain ⟨n2, rfl, _⟩ := r2.int (q := .i64) (by simp)
      obtain ⟨n3, rfl, _⟩ := r3.int (q := .i64) (by simp)
      obtain ⟨n4, rfl, _⟩ := r4.int (q := .i64) (by simp)
      exact ⟨⟨n0, n1, n2, n3, n4⟩, rfl, trivial⟩)
  exact rises26_ev n (l1.rows (fun _ _ => rfl) l4)
end Go.Proofs.Ytaahkamnpobofaa
