/- The law JobsLoads: called, it comes to true; no condition. -/
import Derived.Test.YtklhioaokogpdaaLawLoads25
import Derived.Test.YtklhioaokogpdaaRLoad25
namespace Go.Proofs.Ytklhioaokogpdaa
open Go.Ab
/-- what a plan's job asks for -/
def pkey (y : Pj) : List Int × Int × Int × Bool := (y.needs, y.tries, y.limit, y.manual)
theorem jobsOkB_congr : ∀ (ps qs : List Pj) (i : Nat), ps.map pkey = qs.map pkey → jobsOkB i ps = jobsOkB i qs := by
  intro ps
  induction ps with
  | nil => intro qs i h; cases qs with | nil => rfl | cons _ _ => simp at h
  | cons y ys ih =>
    intro qs i h
    cases qs with
    | nil => simp at h
    | cons z zs =>
      simp only [List.map_cons, List.cons.injEq, pkey, Prod.mk.injEq] at h
      obtain ⟨⟨h1, h2, h3, h4⟩, h5⟩ := h
      simp only [jobsOkB, jobOkB, h1, h2, h3]
      rw [ih zs (i + 1) h5]
theorem mayP_congr {ps qs : List Pj} (h : ps.map pkey = qs.map pkey) : mayP ps = mayP qs := by
  have hl := congrArg List.length h
  rw [List.length_map, List.length_map] at hl
  unfold mayP
  rw [jobsOkB_congr ps qs 0 h, hl]
theorem Conv.congr {ps qs : List Pj} {js : List Jb} (h : ps.map pkey = qs.map pkey) (cv : Conv qs js) : Conv ps js := by
  have hl := congrArg List.length h
  rw [List.length_map, List.length_map] at hl
  refine ⟨by rw [cv.1, hl], fun k hk => ?_⟩
  have h1 := cv.2 k (by omega)
  have h2 : (ps.map pkey)[k]'(by simpa using hk) = (qs.map pkey)[k]'(by simp; omega) := by simp only [h]
  simp only [List.getElem_map, pkey, Prod.mk.injEq] at h2
  rw [h2.1, h2.2.1, h2.2.2.1, h2.2.2.2]
  exact h1
theorem Conv.self (ps : List Pj) : Conv ps (ps.map fun y => (⟨y.nv, y.needs.map Int.toNat, y.tries, y.limit, y.manual⟩ : Jb)) := by
  refine ⟨by simp, fun k hk => ?_⟩
  have : (ps.map fun y => (⟨y.nv, y.needs.map Int.toNat, y.tries, y.limit, y.manual⟩ : Jb)).getD k Jb.no = ⟨ps[k].nv, ps[k].needs.map Int.toNat, ps[k].tries, ps[k].limit, ps[k].manual⟩ := by
    rw [List.getD_eq_getElem?_getD, List.getElem?_map, List.getElem?_eq_getElem hk]; rfl
  rw [this]; exact ⟨rfl, rfl, rfl, rfl⟩
theorem pjCells_len (l : List Pj) : (l.flatMap Pj.cells).length = l.length * 9 := by
  induction l with
  | nil => rfl
  | cons x l ih => rw [List.flatMap_cons, List.length_append, ih, List.length_cons]; show 9 + _ = _; omega
set_option maxRecDepth 6000 in
theorem large2_ev {h : Hp} {v : Value} {ps : List Pj} (p : PlanR h v ps) :
    EvA Try.prog 29 [.agg #[v]] (fun r h' => (∃ b, r = .bool b ∧ (b = false → ps.length ≤ 2000 ∧ ∀ y ∈ ps, y.needs.length ≤ 2000)) ∧ Same h h') h := by
  refine EvA.body Try.func29 rfl (by kernel_rfl) (by simp) ?_
  apply Run.ok
  have hcv := (Row.one p.row.1).1
  have hov := (Row.one p.row.1).2
  simp [hcv, hov]
  have s1 : Same h (h ++ [.cells [v] false none]) := Same.new _
  have hB : (h ++ [Blk.cells [v] false none])[h.length]? = some (.cells [v] false none) := by simp
  generalize h ++ [Blk.cells [v] false none] = h1 at s1 hB ⊢
  have l1 : loadA Try.prog 48 (.pointer (some ⟨h.length, 0, none⟩)) h1 = some v := by rw [load_at hB (by simp)]; rfl
  have p1 := p.same s1
  have hl1 := p1.row.len (P := Try.prog) (t := 48) (e := 67) (by simp)
  have hbig := p.big.1
  refine WpA.loop (fun z fr g => ∃ (i n : Nat), z = ps.length - i ∧ i ≤ ps.length ∧ i ≤ n ∧ n < 140737488357400 ∧ fr 1 = .pointer (some ⟨h.length, 0, none⟩) ∧ fr 3 = .int .i64 (n : Nat) ∧ fr 4 = .int .i64 (i : Nat) ∧ g = h1 ∧ ∀ y ∈ ps.take i, y.needs.length ≤ n)
    (k := ps.length) ⟨0, 0, by simp, by omega, by omega, by omega, by simp, by simp, by simp, rfl, by simp⟩ ?_
  rintro z fr g ⟨i, n, rfl, hi, hin, hn, f1, f3, f4, rfl, hp⟩
  apply Run.ok
  by_cases c : i < ps.length
  · have c' : (i : Int) < ps.length := by omega
    by_cases d : n < 2000
    · have d' : (n : Int) < 2000 := by omega
      have w1 : IntKind.i64.wrap ((i : Int) + 1) = (i : Int) + 1 := wrap_i64 (by omega) (by omega)
      have ia := p1.row.ia (P := Try.prog) (t := 48) (e := 67) (by simp) (by simp) c .i64
      have ld := p1.row.cell (P := Try.prog) (f := 35) (j := 1) (by simp) c (by omega)
      simp only [Pj.cells, List.getElem?_cons_succ, List.getElem?_cons_zero] at ld
      have hmem : ps[i] ∈ ps := List.getElem_mem _
      have tn := (p1.nr _ hmem).len (P := Try.prog) (t := 35) (e := 3) (by simp)
      have hbn := p.big.2 _ hmem
      have htk : ps.take (i + 1) = ps.take i ++ [ps[i]] := by rw [List.take_add_one, List.getElem?_eq_getElem c]; rfl
      generalize ps[i] = y at ld tn hbn htk
      obtain ⟨q, hq⟩ : ∃ q : Nat, q = n + 1 + y.needs.length := ⟨_, rfl⟩
      have w2 : IntKind.i64.wrap ((n : Int) + 1) = (n : Int) + 1 := wrap_i64 (by omega) (by omega)
      have w3 : IntKind.i64.wrap ((n : Int) + 1 + (y.needs.length : Int)) = (q : Int) := by rw [wrap_i64 (by omega) (by omega)]; omega
      simp [f1, f3, f4, l1, hl1, c', d', ia, ld, tn, w1, w2, w3, -load_ptr, -roundQ_normal, ↓rq]
      refine stop_intro ⟨ps.length - (i + 1), by omega, i + 1, q, rfl, by omega, by omega, by omega, by simp [f1], by simp, by simp, rfl, fun y' hy' => ?_⟩
      rw [htk] at hy'
      rcases List.mem_append.1 hy' with h1 | h1
      · have := hp y' h1; omega
      · simp only [List.mem_singleton] at h1; subst h1; omega
    · have d' : ¬ (n : Int) < 2000 := by omega
      simp [f1, f3, f4, l1, hl1, c', d', -load_ptr]
      exact s1
  · have c' : ¬ (i : Int) < ps.length := by omega
    rw [List.take_of_length_le (by omega)] at hp
    simp [f1, f3, f4, l1, hl1, c', -load_ptr]
    exact ⟨fun h => ⟨by omega, fun y hy => by have := hp y hy; omega⟩, s1⟩
set_option maxHeartbeats 2000000 in
set_option maxRecDepth 6000 in
theorem copied_ev {h : Hp} {v : Value} {ps : List Pj} (p : PlanR h v ps) (hbig : ps.length ≤ 2000 ∧ ∀ y ∈ ps, y.needs.length ≤ 2000) :
    EvA Try.prog 48 [.agg #[v]] (fun r h' => Same h h' ∧ ∃ v' qs, r = .agg #[v'] ∧ PlanR h' v' qs ∧ qs.map pkey = ps.map pkey) h := by
  refine EvA.body Try.func48 rfl (by kernel_rfl) (by simp) ?_
  apply Run.ok
  have hcv := (Row.one p.row.1).1
  have hov := (Row.one p.row.1).2
  simp [hcv, hov, zeros]
  have s1 : Same h (h ++ [.cells [v] false none, .cells [.slice none 0 0] false none, .cells [.slice none 0 0] false none]) := Same.new _
  have hB0 : (h ++ [Blk.cells [v] false none, .cells [.slice none 0 0] false none, .cells [.slice none 0 0] false none])[h.length]? = some (.cells [v] false none) := by simp
  have hB1 : (h ++ [Blk.cells [v] false none, .cells [.slice none 0 0] false none, .cells [.slice none 0 0] false none])[h.length + 1]? = some (.cells [.slice none 0 0] false none) := by simp
  have hB2 : (h ++ [Blk.cells [v] false none, .cells [.slice none 0 0] false none, .cells [.slice none 0 0] false none])[h.length + 2]? = some (.cells [.slice none 0 0] false none) := by simp
  generalize h ++ [Blk.cells [v] false none, .cells [.slice none 0 0] false none, .cells [.slice none 0 0] false none] = h1 at s1 hB0 hB1 hB2 ⊢
  have hno : ∀ j, ¬ inRow (.slice none 0 0) j := fun j hj => by obtain ⟨a, n, c, he, _⟩ := hj; cases he
  refine WpA.loop (fun z fr g => ∃ (i : Nat) (ov : Value) (qs : List Pj), z = ps.length - i ∧ i ≤ ps.length ∧ fr 1 = .pointer (some ⟨h.length, 0, none⟩) ∧ fr 2 = .pointer (some ⟨h.length + 1, 0, none⟩) ∧ fr 3 = .pointer (some ⟨h.length + 2, 0, none⟩) ∧ fr 4 = .int .i64 (i : Nat) ∧ Same h g ∧
      g[h.length]? = some (.cells [v] false none) ∧ g[h.length + 1]? = some (.cells [.slice none 0 0] false none) ∧ g[h.length + 2]? = some (.cells [ov] false none) ∧ Acc (h.length + 3) g 9 ov qs.length (qs.flatMap Pj.cells) ∧ qs.map pkey = (ps.take i).map pkey ∧
      (∀ y ∈ qs, Acc (h.length + 3) g 1 y.nv y.needs.length (y.needs.map intV) ∧ y.cells.all oneA = true ∧ ∀ j, inRow y.nv j → ¬ inRow ov j))
    (k := ps.length) ⟨0, .slice none 0 0, [], by simp, by omega, by simp, by simp, by simp, by simp, s1, hB0, hB1, hB2, Acc.nil _, by simp, by simp⟩ ?_
  clear s1 hB0 hB1 hB2
  rintro z fr g ⟨i, ov, qs, rfl, hi, f1, f2, f3, f4, sm, b0, b1, b2, A, hk, hqs⟩
  apply Run.ok
  have pg := p.same sm
  have l0 : loadA Try.prog 48 (.pointer (some ⟨h.length, 0, none⟩)) g = some v := by rw [load_at b0 (by simp)]; rfl
  have tg := pg.row.len (P := Try.prog) (t := 48) (e := 67) (by simp)
  have hql : qs.length = i := by
    have := congrArg List.length hk
    rw [List.length_map, List.length_map, List.length_take] at this; omega
  by_cases c : i < ps.length
  · have c' : (i : Int) < ps.length := by omega
    have w1 : IntKind.i64.wrap ((i : Int) + 1) = (i : Int) + 1 := wrap_i64 (by omega) (by omega)
    have ia := PL_ia pg c
    have ld := pg.row.agg (P := Try.prog) (e := 67) (by simp) (by simp) c
    have hmem : ps[i] ∈ ps := List.getElem_mem _
    have hnr := pg.nr _ hmem
    have hone := p.one _ hmem
    have hbn := hbig.2 _ hmem
    have htk : ps.take (i + 1) = ps.take i ++ [ps[i]] := by rw [List.take_add_one, List.getElem?_eq_getElem c]; rfl
    generalize ps[i] = y at ld hnr hone hbn htk
    obtain ⟨c0, nv, c2, c3, c4, c5, needs, tries, limit, manual⟩ := y
    simp only [Pj.cells] at ld hone hnr hbn
    simp only [List.all_cons, List.all_nil, Bool.and_eq_true, Bool.and_true] at hone
    obtain ⟨o0, o1, o2, o3, o4, o5, _, _, _⟩ := hone
    simp [f1, f2, f3, f4, l0, tg, c', ia, ld, cellsOf, spl, o0, o1, o2, o3, o4, o5, -load_ptr]
    have sA : Same g (g ++ [.cells [c0, nv, c2, c3, c4, c5, .int .i64 tries, .int .i64 limit, .bool manual] false none]) := Same.new _
    have hsA : (g ++ [Blk.cells [c0, nv, c2, c3, c4, c5, .int .i64 tries, .int .i64 limit, .bool manual] false none])[g.length]? = some (.cells [c0, nv, c2, c3, c4, c5, .int .i64 tries, .int .i64 limit, .bool manual] false none) := by simp
    have hlA : (g ++ [Blk.cells [c0, nv, c2, c3, c4, c5, .int .i64 tries, .int .i64 limit, .bool manual] false none]).length = g.length + 1 := by simp
    generalize g ++ [Blk.cells [c0, nv, c2, c3, c4, c5, .int .i64 tries, .int .i64 limit, .bool manual] false none] = gA at sA hsA hlA ⊢
    have k1 : ∀ g', Same gA g' → loadA Try.prog 35 (.pointer (some ⟨g.length, 1, none⟩)) g' = some nv := fun g' s => by rw [load_at (s.at hsA) (by simp)]; rfl
    have k6 : ∀ g', Same gA g' → loadA Try.prog 3 (.pointer (some ⟨g.length, 6, none⟩)) g' = some (.int .i64 tries) := fun g' s => by rw [load_at (s.at hsA) (by simp)]; rfl
    have k7 : ∀ g', Same gA g' → loadA Try.prog 3 (.pointer (some ⟨g.length, 7, none⟩)) g' = some (.int .i64 limit) := fun g' s => by rw [load_at (s.at hsA) (by simp)]; rfl
    have k8 : ∀ g', Same gA g' → loadA Try.prog 4 (.pointer (some ⟨g.length, 8, none⟩)) g' = some (.bool manual) := fun g' s => by rw [load_at (s.at hsA) (by simp)]; rfl
    have ko : ∀ g', Same gA g' → loadA Try.prog 48 (.pointer (some ⟨h.length + 2, 0, none⟩)) g' = some ov := fun g' s => by rw [load_at (s.at (sA.at b2)) (by simp)]; rfl
    have sL : Same gA (gA ++ [.cells [] false none]) := Same.new _
    obtain ⟨r7, g7, e7, A7, s67, n7⟩ := Acc.appendLit (P := Try.prog) (h := gA ++ [.cells [] false none]) (z := 1) (k := gA.length) (b := gA.length) (t := 35) (tx := 35) (e := 3) (by_ := 8) (dx := .slice 3) (Nat.le_refl _) (by simp) (by simp) (by simp) (by simp) rfl ((hnr.same sA).same sL).2.1 (by simp) (by omega) (by omega)
    have s7 := sL.trans s67
    have ho7 := (Row.one A7.row).2
    have hc7 := (Row.one A7.row).1
    have sB : Same g7 (g7 ++ [.cells [.string ⟨#[]⟩, r7, .slice none 0 0, .slice none 0 0, .slice none 0 0, .slice none 0 0, .int .i64 tries, .int .i64 limit, .bool manual] false none]) := Same.new _
    have hsB : srcA 9 (.slice (some ⟨g7.length, 0, none⟩) 1 1) (g7 ++ [Blk.cells [.string ⟨#[]⟩, r7, .slice none 0 0, .slice none 0 0, .slice none 0 0, .slice none 0 0, .int .i64 tries, .int .i64 limit, .bool manual] false none]) = some (1, [.string ⟨#[]⟩, r7, .slice none 0 0, .slice none 0 0, .slice none 0 0, .slice none 0 0, .int .i64 tries, .int .i64 limit, .bool manual]) := by simp [srcA]
    have s7B := s7.trans sB
    have smB := (sm.trans sA).trans s7B
    have hgB : (g7 ++ [Blk.cells [.string ⟨#[]⟩, r7, .slice none 0 0, .slice none 0 0, .slice none 0 0, .slice none 0 0, .int .i64 tries, .int .i64 limit, .bool manual] false none]).length = g7.length + 1 := by simp
    have hh := sm.len
    have h2l := hp_lt b2
    have hg7 := s7.len
    have AB := ((A.same sA).same s7).same sB
    obtain ⟨ov', g8, e8, A8, u8, n8⟩ := AB.append (P := Try.prog) (by_ := 160) (t := 48) (tx := 48) (e := 67) (x := .slice (some ⟨g7.length, 0, none⟩) 1 1) (m := 1) (ys := [.string ⟨#[]⟩, r7, .slice none 0 0, .slice none 0 0, .slice none 0 0, .slice none 0 0, .int .i64 tries, .int .i64 limit, .bool manual]) (by omega) (by simp) (by simp) (by simp; rfl) (by simp [isSrc]) hsB (by simp) (by simp only [List.all_cons, List.all_nil, ho7]; rfl) (by omega) (by omega)
    have hlo : ∀ j, inRow ov j → h.length + 3 ≤ j ∧ j < g.length := fun j hj => A.above j hj
    have b28 : g8[h.length + 2]? = some (.cells [ov] false none) := u8.at (s7B.at (sA.at b2)) fun hin => by have := hlo _ hin; omega
    have hc8 := (Row.one A8.row).1
    have ho8 := (Row.one A8.row).2
    have q8 : storeA Try.prog 48 (.pointer (some ⟨h.length + 2, 0, none⟩)) ov' g8 = some (g8.set (h.length + 2) (.cells [ov'] false none)) := by simp [storeA, b28, hc8, ho8, spl]
    have h2l8 := hp_lt b28
    have u9 : Upd (· = h.length + 2) g8 (g8.set (h.length + 2) (.cells [ov'] false none)) := Upd.set (S := (· = h.length + 2)) rfl _
    have b29 : (g8.set (h.length + 2) (.cells [ov'] false none))[h.length + 2]? = some (.cells [ov'] false none) := by simp [h2l8]
    have hg8 := u8.len
    rw [hgB] at n8 hg8
    refine WpA.drawnA [0, 1, 2, 3, 4, 6, 7, 8, 9, 10, 11, 5, 12, 13, 14, 15, 16] [[], [], [], [], [], [2, 3, 4], [], [], [], [], [], [], [], [], [0, 1, 2, 3, 4, 5, 6, 7, 8, 9, 10, 11, 12, 13], [], [0, 1, 2, 3, 4, 5, 6, 7, 8, 9, 10, 11, 12, 13, 14, 15]] (by kernel_rfl) (by decide +kernel) (by decide +kernel) ?_
    simp [f1, f2, f3, f4, ko _ Same.refl, k1 _ Same.refl, k6 _ Same.refl, k7 _ Same.refl, k8 _ Same.refl, ko _ sL, k1 _ sL, k6 _ sL, k7 _ sL, k8 _ sL, ko _ s7, k1 _ s7, k6 _ s7, k7 _ s7, k8 _ s7, ko _ s7B, k1 _ s7B, k6 _ s7B, k7 _ s7B, k8 _ s7B, e7, hc7, ho7, e8, q8, w1, zeros, capO, spl, -load_ptr, -store_ptr, -roundQ_normal, ↓rq]
    generalize g8.set (h.length + 2) (.cells [ov'] false none) = g9 at b29 u9 ⊢
    have sm8 : Same h g8 := Upd.trans smB u8 fun j hj hin => by have := hlo j hin; omega
    have sm9 : Same h g9 := Upd.trans sm8 u9 fun j hj e => by omega
    have b09 : g9[h.length]? = some (.cells [v] false none) := u9.at (u8.at (s7B.at (sA.at b0)) fun hin => by have := hlo _ hin; omega) (by omega)
    have b19 : g9[h.length + 1]? = some (.cells [.slice none 0 0] false none) := u9.at (u8.at (s7B.at (sA.at b1)) fun hin => by have := hlo _ hin; omega) (by omega)
    have A9 := A8.upd u9 fun j hj e => by have := (A8.above j hj).1; omega
    refine ⟨sB.at (s67.at (by simp)), ?_⟩
    refine stop_intro ⟨ps.length - (i + 1), by omega, i + 1, ov', qs ++ [⟨.string ⟨#[]⟩, r7, .slice none 0 0, .slice none 0 0, .slice none 0 0, .slice none 0 0, needs, tries, limit, manual⟩], rfl, by omega, by simp [f1], by simp [f2], by simp [f3], by simp, sm9, b09, b19, b29, ?_, ?_, fun y hy => ?_⟩
    · rw [List.length_append, List.flatMap_append, List.flatMap_singleton]
      exact A9
    · rw [htk, List.map_append, List.map_append, hk]; rfl
    · rcases List.mem_append.1 hy with hy | hy
      · obtain ⟨y1, y2, y3⟩ := hqs y hy
        have hyl : ∀ j, inRow y.nv j → h.length + 3 ≤ j ∧ j < g.length := fun j hj => y1.above j hj
        refine ⟨((((y1.same sA).same s7).same sB).upd u8 fun j hj => y3 j hj).upd u9 fun j hj e => by have := hyl j hj; omega, y2, fun j hj hin => ?_⟩
        rcases n8 j hin with h1 | h1
        · exact y3 j hj h1
        · have := hyl j hj; omega
      · simp only [List.mem_singleton] at hy
        subst hy
        have h7l : ∀ j, inRow r7 j → gA.length ≤ j ∧ j < g7.length := fun j hj => A7.above j hj
        refine ⟨?_, by simp only [Pj.cells, List.all_cons, List.all_nil, ho7]; rfl, fun j hj hin => ?_⟩
        · have := ((A7.same sB).upd u8 fun j hj hin => by have := h7l j hj; have := hlo j hin; omega).upd u9 fun j hj e => by have := h7l j hj; omega
          exact Acc.down (by omega) this
        · have := h7l j hj
          rcases n8 j hin with h1 | h1
          · have := hlo j h1; omega
          · omega
  · have c' : ¬ (i : Int) < ps.length := by omega
    rw [List.take_of_length_le (by omega)] at hk
    have hcA := (Row.one A.row).1
    have hoA := (Row.one A.row).2
    have lo : loadA Try.prog 50 (.pointer (some ⟨h.length + 2, 0, none⟩)) g = some (.agg #[ov]) := by simp [b2]
    have q2 : storeA Try.prog 50 (.pointer (some ⟨h.length + 1, 0, none⟩)) (.agg #[ov]) g = some (g.set (h.length + 1) (.cells [ov] false none)) := by simp [storeA, b1, cellsOf, hoA, spl]
    have h1l := hp_lt b1
    have lf : loadA Try.prog 50 (.pointer (some ⟨h.length + 1, 0, none⟩)) (g.set (h.length + 1) (.cells [ov] false none)) = some (.agg #[ov]) := by simp [h1l]
    have u1 : Upd (· = h.length + 1) g (g.set (h.length + 1) (.cells [ov] false none)) := Upd.set (S := (· = h.length + 1)) rfl _
    simp [f1, f2, f3, f4, l0, tg, c', lo, q2, lf, -load_ptr, -store_ptr]
    refine ⟨Upd.trans sm u1 fun j hj e => by omega, qs, ⟨⟨(A.upd u1 fun j hj e => by have := (A.above j hj).1; omega).row, fun _ _ => rfl⟩, fun y hy => ?_, fun y hy => (hqs y hy).2.1, by omega, fun y hy => ?_⟩, hk⟩
    · exact ((hqs y hy).1.upd u1 fun j hj e => by have := ((hqs y hy).1.above j hj).1; omega).row
    · have : pkey y ∈ ps.map pkey := by rw [← hk]; exact List.mem_map_of_mem hy
      obtain ⟨z, hz, he⟩ := List.mem_map.1 this
      simp only [pkey, Prod.mk.injEq] at he
      have := hbig.2 z hz
      rw [← he.1]; omega
section
variable {h : Hp} {k k' b c : Nat} {jv lv pv rv : Value} {js : List Jb} {l : List St} {ps : List Pj}
/-- a row is overwritten, and nothing else -/
theorem ownJ_lt (M : JM h k b jv lv js l) {j : Nat} (hj : ownJ b jv lv js j) : j < h.length := (M.lo hj).2
set_option maxHeartbeats 2000000 in
set_option maxRecDepth 6000 in
theorem stands_ev (M : JM h k b jv lv js l) (R : RJ h k' c pv rv l) (p : PlanR h pv ps) (cv : Conv ps js) (hv : ∀ x ∈ l, ValOk x) (hlim : ∀ i, i < js.length → 0 ≤ (js.getD i Jb.no).limit ∧ (js.getD i Jb.no).limit ≤ 1000) (now : Int) :
    EvA Try.prog 50 [.pointer (some ⟨b, 0, none⟩), .pointer (some ⟨c, 0, none⟩), .int .i64 now] (fun r h' => r = .bool true ∧ Same h h') h := by
  refine EvA.body Try.func50 rfl (by kernel_rfl) (by simp) ?_
  apply Run.ok
  have h24 := M.l24
  have hlp : l.length = ps.length := by rw [M.len, cv.1]
  simp
  refine after_call (jlist_ev M) ?_
  rintro av g1 ⟨A1, s1⟩
  simp
  refine after_call (jbytes_ev (M.same s1) hv) ?_
  rintro bv g2 ⟨B2, s2⟩
  have sm2 := s1.trans s2
  have hg1 := s1.len
  have A2 := A1.same s2
  have M2 := M.same sm2
  have R2 := R.same sm2
  have hbl := stsB_len l hv
  have cb := fun g (s : Same g2 g) => Bytes.str (P := Try.prog) (t := 22) (u := 9) (e := 5) (B2.same s).row (by simp) (by simp) (by simp)
  have rl0 := R2.l0
  simp
  refine WpA.drawnT [0, 2, 3, 4, 5, 1, 6, 7, 8, 10, 9, 11, 12, 13, 14, 15, 16, 18, 19, 17, 20, 21, 22, 23, 24, 26, 25, 27, 28, 29, 30, 31, 32, 33, 34, 35, 36, 37, 38] [[], [0], [], [], [], [], [0, 1, 2, 3, 4, 5], [], [], [0, 1, 2, 3, 4, 5, 6, 7, 8], [], [0, 1, 2, 3, 4, 5, 6, 7, 8, 9, 10], [0, 1, 2, 3, 4, 5, 6, 7, 8, 9, 10, 11], [], [], [], [], [0, 1, 2, 3, 4, 5, 6, 7, 8, 9, 10, 11, 12, 13, 14, 15, 16], [], [], [0, 1, 2, 3, 4, 5, 6, 7, 8, 9, 10, 11, 12, 13, 14, 15, 16, 17, 18, 19], [0, 1, 2, 3, 4, 5, 6, 7, 8, 9, 10, 11, 12, 13, 14, 15, 16, 17, 18, 19, 20], [], [], [], [0, 1, 2, 3, 4, 5, 6, 7, 8, 9, 10, 11, 12, 13, 14, 15, 16, 17, 18, 19, 20, 21, 22, 23, 24], [], [0, 1, 2, 3, 4, 5, 6, 7, 8, 9, 10, 11, 12, 13, 14, 15, 16, 17, 18, 19, 20, 21, 22, 23, 24, 25, 26], [], [], [], [], [], [], [0, 1, 2, 3, 4, 5, 6, 7, 8, 9, 10, 11, 12, 13, 14, 15, 16, 17, 18, 19, 20, 21, 22, 23, 24, 25, 26, 27, 28, 29, 30, 33]] [[], [0], [], [2], [2, 3], [2, 3, 4], [0, 1, 2, 3, 4, 5], [0, 1, 2, 3, 4, 5, 6], [0, 1, 2, 3, 4, 5, 6, 7], [0, 1, 2, 3, 4, 5, 6, 7, 8], [0, 1, 2, 3, 4, 5, 6, 7], [0, 1, 2, 3, 4, 5, 6, 7, 8, 9, 10], [0, 1, 2, 3, 4, 5, 6, 7, 8, 9, 10, 11], [0, 1, 2, 3, 4, 5, 6, 7, 8, 9, 10, 11, 12], [0, 1, 2, 3, 4, 5, 6, 7, 8, 9, 10, 11, 12, 13], [0, 1, 2, 3, 4, 5, 6, 7, 8, 9, 10, 11, 12, 13, 14], [0, 1, 2, 3, 4, 5, 6, 7, 8, 9, 10, 11, 12, 13, 14], [0, 1, 2, 3, 4, 5, 6, 7, 8, 9, 10, 11, 12, 13, 14, 15, 16], [0, 1, 2, 3, 4, 5, 6, 7, 8, 9, 10, 11, 12, 13, 14], [0, 1, 2, 3, 4, 5, 6, 7, 8, 9, 10, 11, 12, 13, 14], [0, 1, 2, 3, 4, 5, 6, 7, 8, 9, 10, 11, 12, 13, 14, 15, 16, 17, 18, 19], [0, 1, 2, 3, 4, 5, 6, 7, 8, 9, 10, 11, 12, 13, 14, 15, 16, 17, 18, 19, 20], [0, 1, 2, 3, 4, 5, 6, 7, 8, 9, 10, 11, 12, 13, 14, 15, 16, 17, 18, 19, 20, 21], [0, 1, 2, 3, 4, 5, 6, 7, 8, 9, 10, 11, 12, 13, 14, 15, 16, 17, 18, 19, 20, 21, 22], [0, 1, 2, 3, 4, 5, 6, 7, 8, 9, 10, 11, 12, 13, 14, 15, 16, 17, 18, 19, 20, 21, 22, 23], [0, 1, 2, 3, 4, 5, 6, 7, 8, 9, 10, 11, 12, 13, 14, 15, 16, 17, 18, 19, 20, 21, 22, 23, 24], [0, 1, 2, 3, 4, 5, 6, 7, 8, 9, 10, 11, 12, 13, 14, 15, 16, 17, 18, 19, 20, 21, 22, 23], [0, 1, 2, 3, 4, 5, 6, 7, 8, 9, 10, 11, 12, 13, 14, 15, 16, 17, 18, 19, 20, 21, 22, 23, 24, 25, 26], [0, 1, 2, 3, 4, 5, 6, 7, 8, 9, 10, 11, 12, 13, 14, 15, 16, 17, 18, 19, 20, 21, 22, 23, 24, 25, 26, 27], [0, 1, 2, 3, 4, 5, 6, 7, 8, 9, 10, 11, 12, 13, 14, 15, 16, 17, 18, 19, 20, 21, 22, 23, 24, 25, 26, 27, 28], [0, 1, 2, 3, 4, 5, 6, 7, 8, 9, 10, 11, 12, 13, 14, 15, 16, 17, 18, 19, 20, 21, 22, 23, 24, 25, 26, 27, 28, 29], [0, 1, 2, 3, 4, 5, 6, 7, 8, 9, 10, 11, 12, 13, 14, 15, 16, 17, 18, 19, 20, 21, 22, 23, 24, 25, 26, 27, 28, 29, 30], [0, 1, 2, 3, 4, 5, 6, 7, 8, 9, 10, 11, 12, 13, 14, 15, 16, 17, 18, 19, 20, 21, 22, 23, 24, 25, 26, 27, 28, 29, 30, 31], [0, 1, 2, 3, 4, 5, 6, 7, 8, 9, 10, 11, 12, 13, 14, 15, 16, 17, 18, 19, 20, 21, 22, 23, 24, 25, 26, 27, 28, 29, 30], [0, 1, 2, 3, 4, 5, 6, 7, 8, 9, 10, 11, 12, 13, 14, 15, 16, 17, 18, 19, 20, 21, 22, 23, 24, 25, 26, 27, 28, 29, 30, 33], [0, 1, 2, 3, 4, 5, 6, 7, 8, 9, 10, 11, 12, 13, 14, 15, 16, 17, 18, 19, 20, 21, 22, 23, 24, 25, 26, 27, 28, 29, 30, 33, 34], [0, 1, 2, 3, 4, 5, 6, 7, 8, 9, 10, 11, 12, 13, 14, 15, 16, 17, 18, 19, 20, 21, 22, 23, 24, 25, 26, 27, 28, 29, 30, 31, 32, 33, 34, 35], [0, 1, 2, 3, 4, 5, 6, 7, 8, 9, 10, 11, 12, 13, 14, 15, 16, 17, 18, 19, 20, 21, 22, 23, 24, 25, 26, 27, 28, 29, 30, 31, 32, 33, 34, 35, 36], [0, 1, 2, 3, 4, 5, 6, 7, 8, 9, 10, 11, 12, 13, 14, 15, 16, 17, 18, 19, 20, 21, 22, 23, 24, 25, 26, 27, 28, 29, 30, 31, 32, 33, 34, 35, 36, 37]] (by kernel_rfl) (by decide +kernel) (by decide +kernel) (by decide +kernel) ?_
  simp [rl0, -load_ptr]
  refine after_call (jtell_ev ⟨A2.row, fun _ _ => rfl⟩ h24) ?_
  rintro y3 g3 ⟨A3, s3⟩
  have R3 := R2.same s3
  have rl3 := R3.l0
  simp [rl3, -load_ptr]
  refine after_call (rsame_ev ⟨A3.row, fun _ _ => rfl⟩ R3.t h24) ?_
  rintro y4 g4 ⟨rfl, rfl⟩
  have M4 := M2.same s3
  simp [rl3, -load_ptr]
  refine after_call (jready_ev M4) ?_
  rintro y5 g5 ⟨A5, s5⟩
  have R5 := R3.same s5
  have rl5 := R5.l0
  simp [rl5, -load_ptr]
  refine after_call (rready_ev R5 h24) ?_
  rintro y6 g6 ⟨A6, s6⟩
  have hpk1 := picks_len (fun _ x => decide (x.s = 3)) l l.length
  have R6 := R5.same s6
  have rl6 := R6.l0
  simp [rl6, -load_ptr]
  refine after_call (jints_ev (A5.same s6).row A6.row (by omega)) ?_
  rintro y7 g7 ⟨rfl, rfl⟩
  have M7 := (M4.same s5).same s6
  simp [rl6, -load_ptr]
  refine after_call (jlate_ev M7 hv hlim now) ?_
  rintro y8 g8 ⟨A8, s8⟩
  have R8 := R6.same s8
  have rl8 := R8.l0
  have P8 := ((((p.same sm2).same s3).same s5).same s6).same s8
  simp [rl8, -load_ptr]
  refine after_call (rlate_ev R8 P8 cv hlp h24 hv hlim now) ?_
  rintro y9 g9 ⟨A9, s9⟩
  have hpk2 := picks_len (lateF js now) l l.length
  have R9 := R8.same s9
  have rl9 := R9.l0
  simp [rl9, -load_ptr]
  refine after_call (jints_ev (A8.same s9).row A9.row (by omega)) ?_
  rintro y10 g10 ⟨rfl, rfl⟩
  have M10 := (M7.same s8).same s9
  simp [rl9, -load_ptr]
  refine after_call (jover_ev M10) ?_
  rintro y11 g11 ⟨rfl, s11⟩
  have R11 := R9.same s11
  have rl11 := R11.l0
  simp [rl11, -load_ptr]
  refine after_call (rover_ev R11 h24) ?_
  rintro y12 g12 ⟨rfl, rfl⟩
  have s211 := ((((s3.trans s5).trans s6).trans s8).trans s9).trans s11
  have cb11 := cb _ s211
  simp [rl11, cb11, -load_ptr]
  refine after_call (rjbytes_ev R11 h24 hv) ?_
  rintro y13 g13 ⟨B13, s13⟩
  have c13 := Bytes.str (P := Try.prog) (t := 22) (u := 9) (e := 5) B13.row (by simp) (by simp) (by simp)
  have s213 := s211.trans s13
  have cb13 := cb _ s213
  have rl13 := (R11.same s13).l0
  simp [rl13, cb13, c13, -load_ptr]
  -- what was told is written over
  have sm13 := sm2.trans s213
  have W1 := (A2.same s213).wr
  have hA1 : ∀ j, inRow av j → h.length ≤ j := fun j hj => (A1.above j hj).1
  have hBl : ∀ j, inRow bv j → g1.length ≤ j := fun j hj => (Acc.above B2 j hj).1
  have hA1g : ∀ j, inRow av j → j < g1.length := fun j hj => (A1.above j hj).2
  refine WpA.loop (fun z fr g => ∃ (n : Nat) (L : List St), z = l.length - n ∧ n ≤ l.length ∧ fr 7 = av ∧ fr 8 = bv ∧ fr 9 = .bool true ∧ fr 10 = .int .i64 (n : Nat) ∧ Same h g ∧ L.length = l.length ∧ Acc h.length g 6 av l.length (L.flatMap St.cells) ∧ BAcc g1.length g bv (l.flatMap stB))
    (k := l.length) ⟨0, l, by simp, by omega, by simp, by simp, by simp, by simp, sm13, rfl, A2.same s213, B2.same s213⟩ ?_
  rintro z fr g ⟨n, L, rfl, hn, f7, f8, f9, f10, sm, hL, A, B⟩
  apply Run.ok
  have TA : TRow g 6 av L St.cells := ⟨by rw [hL]; exact A.row, fun _ _ => rfl⟩
  have ta := SR_len TA
  rw [hL] at ta
  by_cases d : n < l.length
  · have d' : (n : Int) < l.length := by omega
    have wn : IntKind.i64.wrap ((n : Int) + 1) = (n : Int) + 1 := wrap_i64 (by omega) (by omega)
    have ia := SR_ia TA (by rw [hL]; exact d)
    obtain ⟨g', e1, e2, e3, e4⟩ := A.storec (P := Try.prog) (e := 5) (x := .int .u8 ((77 : Nat) : Int)) (i := n) (j := 0) (by simp) rfl d (by omega)
    have hdL : n < L.length := by omega
    rw [flatMap_setc (cells := St.cells) (z := 6) L n 0 ((L.getD n St.no).to 77) _ (fun _ _ => rfl) hdL (by omega) (by rw [getD_at L St.no hdL]; rfl)] at e2
    have u : Upd (inRow av) g g' := e3.mono fun j _ hj => by rw [hj]; exact TA.1.inRow (by rw [hL]; exact d)
    have e1' : storeA Try.prog 5 (.pointer (some ⟨rbl av, rof av + n * 6, none⟩)) (.int .u8 77) g = some g' := e1
    simp [f7, f8, f9, f10, ta, d', ia, e1', wn, -load_ptr, -store_ptr, -roundQ_normal, ↓rq]
    refine stop_intro ⟨l.length - (n + 1), by omega, n + 1, L.set n ((L.getD n St.no).to 77), rfl, by omega, by simp [f7], by simp [f8], by simp [f9], by simp, Upd.trans sm u fun j hj hin => by have := hA1 j hin; omega, by simpa using hL, e2, Acc.upd B u fun j hj hin => by have := hBl j hj; have := hA1g j hin; omega⟩
  · have d' : ¬ (n : Int) < l.length := by omega
    simp [f7, f8, f9, f10, ta, d', -load_ptr]
    refine WpA.loop (fun z fr g => ∃ (n : Nat) (Y : List UInt8), z = (l.flatMap stB).length - n ∧ n ≤ (l.flatMap stB).length ∧ fr 8 = bv ∧ fr 9 = .bool true ∧ fr 11 = .int .i64 (n : Nat) ∧ Same h g ∧ Y.length = (l.flatMap stB).length ∧ Acc g1.length g 1 bv (l.flatMap stB).length (Y.map byteV))
      (k := (l.flatMap stB).length) ⟨0, l.flatMap stB, by simp, by omega, by simp [f8], by simp [f9], by simp, sm, rfl, B⟩ ?_
    generalize hM : (l.flatMap stB).length = mm at hbl
    rintro z fr g' ⟨q, Y, rfl, hq, f8, f9, f11, smq, hY, BB⟩
    apply Run.ok
    have tb := Row.len (P := Try.prog) (t := 22) (e := 5) BB.row (by simp)
    by_cases e : q < mm
    · have e' : (q : Int) < mm := by omega
      have wq : IntKind.i64.wrap ((q : Int) + 1) = (q : Int) + 1 := wrap_i64 (by omega) (by omega)
      have ia := Row.ia1 (P := Try.prog) (t := 22) (e := 5) BB.row (by simp) (by simp) e .i64
      obtain ⟨g2', e1, e2, e3, e4⟩ := BB.storec (P := Try.prog) (e := 5) (x := .int .u8 77) (i := q) (j := 0) (by simp) rfl e (by omega)
      have e1' : storeA Try.prog 5 (.pointer (some ⟨rbl bv, rof bv + q, none⟩)) (.int .u8 77) g' = some g2' := by simpa using e1
      have hmap : (Y.map byteV).set (q * 1 + 0) (.int .u8 77) = (Y.set q 77).map byteV := by rw [List.map_set, Nat.mul_one, Nat.add_zero]; rfl
      rw [hmap] at e2
      have hbb : g1.length ≤ rbl bv := hBl _ (Row.inRow BB.row e)
      simp [f8, f9, f11, tb, e', ia, e1', wq, -load_ptr, -store_ptr, -roundQ_normal, ↓rq]
      refine stop_intro ⟨mm - (q + 1), by omega, q + 1, Y.set q 77, rfl, by omega, by simp [f8], by simp [f9], by simp, Upd.trans smq e3 fun j hj hin => by omega, by simpa using hY, e2⟩
    · have e' : ¬ (q : Int) < mm := by omega
      simp [f8, f9, f11, tb, e', -load_ptr]
      exact smq
end
theorem Conv.limits {ps : List Pj} {js : List Jb} (cv : Conv ps js) (hm : mayP ps = true) : ∀ i, i < js.length → 0 ≤ (js.getD i Jb.no).limit ∧ (js.getD i Jb.no).limit ≤ 1000 := by
  intro k hk
  have hk' : k < ps.length := by rw [← cv.1]; exact hk
  have h1 := (mayP_spec hm).2 k hk'
  rw [(cv.2 k hk').2.2.1]; exact ⟨h1.2.2.1, h1.2.2.2.1⟩
theorem IsJs.vals {js : List Jb} {b : List UInt8} {L : List St} (h : IsJs js b L) : ∀ x ∈ L, ValOk x := by
  have := readJ_ok 255 2147483647 (by omega) js.length (some b)
  rw [h.1] at this
  exact this
set_option maxHeartbeats 2000000 in
set_option maxRecDepth 6000 in
theorem loads25_ev {h : Hp} {v w : Value} {ps : List Pj} {l : List UInt8} (p : PlanR h v ps) (hw : Row h 1 w l.length (l.map byteV)) (hl : l.length ≤ 140737488355328) :
    EvA Try.prog 10 [.agg #[v], w] (fun r _ => r = .bool true) h := by
  refine EvA.body Try.func10 rfl (by kernel_rfl) (by simp) ?_
  apply Run.ok
  have hcv := (Row.one p.row.1).1
  have hov := (Row.one p.row.1).2
  simp [hcv, hov]
  have sB : Same h (h ++ [.cells [v] false none]) := Same.new _
  have hB : (h ++ [Blk.cells [v] false none])[h.length]? = some (.cells [v] false none) := by simp
  have hlB : (h ++ [Blk.cells [v] false none]).length = h.length + 1 := by simp
  generalize h ++ [Blk.cells [v] false none] = hb at sB hB hlB ⊢
  have lp : ∀ g, Same hb g → loadA Try.prog 50 (.pointer (some ⟨h.length, 0, none⟩)) g = some (.agg #[v]) := fun g s => by simp [s.at hB]
  refine after_call (large2_ev (p.same sB)) ?_
  rintro r g1 ⟨⟨bl, rfl, hbl⟩, s1⟩
  cases bl with
  | true => simp
  | false =>
    have hbig := hbl rfl
    have hwg := hw.same (sB.trans s1)
    have tw := hwg.len (P := Try.prog) (t := 22) (e := 5) (by simp)
    by_cases c0 : (1000 : Int) < l.length
    · simp [tw, c0]
    · obtain ⟨v3, g2, e2, A2, s02, n2⟩ := Acc.appendLit (P := Try.prog) (h := g1 ++ [.cells [] false none]) (z := 1) (k := g1.length) (b := g1.length) (t := 22) (tx := 22) (e := 5) (by_ := 1) (dx := .slice 5) (Nat.le_refl _) (by simp) (by simp) (by simp) (by simp) rfl (hwg.same (Same.new _)).2.1 (by simp) (by omega) (by omega)
      have s2 : Same g1 g2 := Same.trans (Same.new _) s02
      have s12 := s1.trans s2
      simp [tw, c0, zeros, capO, e2, lp _ s12, -load_ptr]
      refine after_call (copied_ev ((p.same sB).same s12) hbig) ?_
      rintro r g3 ⟨s3, v', qs, rfl, P3, hkey⟩
      have A3 := A2.same s3
      simp
      refine after_call (jload_ev P3 A3.row (by omega)) ?_
      rintro r g4 ⟨s4, hq⟩
      have s14 := (s12.trans s3).trans s4
      have hmc := mayP_congr hkey
      have P4 := (p.same sB).same s14
      have hw4 := (hw.same sB).same s14
      rcases hq with ⟨hm, rfl⟩ | ⟨hm, js, cv, hq⟩
      · simp [lp _ s14, -load_ptr]
        have hm' : mayP ps = false := by rw [← hmc]; exact hm
        refine after_call (rload25_ev P4 (Conv.self ps) hw4 (by omega)) ?_
        rintro r g5 ⟨s5, hq5⟩
        rcases hq5 with ⟨_, rfl⟩ | ⟨hm5, _⟩
        · simp
        · rw [hm'] at hm5; cases hm5
      · have cvp := cv.congr hkey.symm
        have hm' : mayP ps = true := by rw [← hmc]; exact hm
        have e5 := rload25_ev P4 cvp hw4 (by omega)
        rcases hq with ⟨b, jv, lv, L, hI, rfl, M⟩ | ⟨hno, rfl⟩
        · simp [lp _ s14, -load_ptr]
          refine after_call e5 ?_
          rintro r g5 ⟨s5, hq5⟩
          rcases hq5 with ⟨hm5, _⟩ | ⟨_, ⟨c, rv, L', hI', rfl, R⟩ | ⟨hno', _⟩⟩
          · rw [hm'] at hm5; cases hm5
          · have hLL := hI'.eq hI
            subst hLL
            have M5 := M.same s5
            have A5 := (A3.same s4).same s5
            have hv3 : ∀ j, inRow v3 j → g1.length ≤ j ∧ j < g2.length := fun j hj => A2.above j hj
            have hg3 := s3.len
            have hg4 := s4.len
            have hMo : ∀ j, ownJ b jv lv js j → g3.length ≤ j := fun j hj => (M.lo hj).1
            have hRo : ∀ j, ownR c rv j → g4.length ≤ j := fun j hj => (R.lo hj).1
            have hg1h := s1.len
            simp
            refine WpA.loop (fun z fr g => ∃ (n : Nat) (Y : List UInt8), z = l.length - n ∧ n ≤ l.length ∧ fr 5 = v3 ∧ fr 6 = .pointer (some ⟨b, 0, none⟩) ∧ fr 8 = .pointer (some ⟨c, 0, none⟩) ∧ fr 10 = .int .i64 (n : Nat) ∧ Same hb g ∧ Acc g1.length g 1 v3 l.length (Y.map byteV) ∧ JM g g3.length b jv lv js L' ∧ RJ g g4.length c v rv L')
              (k := l.length) ⟨0, l, by simp, by omega, by simp, by simp, by simp, by simp, s14.trans s5, A5, M5, R⟩ ?_
            rintro z fr g ⟨n, Y, rfl, hn, f5, f6, f8, f10, sm, A, MM, RR⟩
            apply Run.ok
            have ta := Row.len (P := Try.prog) (t := 22) (e := 5) A.row (by simp)
            by_cases d : n < l.length
            · have d' : (n : Int) < l.length := by omega
              have wn : IntKind.i64.wrap ((n : Int) + 1) = (n : Int) + 1 := wrap_i64 (by omega) (by omega)
              have ia := Row.ia1 (P := Try.prog) (t := 22) (e := 5) A.row (by simp) (by simp) d .i64
              obtain ⟨g', q1, q2, q3, q4⟩ := A.storec (P := Try.prog) (e := 5) (x := .int .u8 99) (i := n) (j := 0) (by simp) rfl d (by omega)
              have q1' : storeA Try.prog 5 (.pointer (some ⟨rbl v3, rof v3 + n, none⟩)) (.int .u8 99) g = some g' := by simpa [-store_ptr] using q1
              have hmap : (Y.map byteV).set (n * 1 + 0) (.int .u8 99) = (Y.set n 99).map byteV := by rw [List.map_set, Nat.mul_one, Nat.add_zero]; rfl
              rw [hmap] at q2
              have hbb := hv3 _ (Row.inRow A.row d)
              simp [f5, f6, f8, f10, ta, d', ia, q1', wn, -load_ptr, -store_ptr, -roundQ_normal, ↓rq]
              refine stop_intro ⟨l.length - (n + 1), by omega, n + 1, Y.set n 99, rfl, by omega, by simp [f5], by simp [f6], by simp [f8], by simp, Upd.trans sm q3 fun j hj e => by omega, q2, MM.upd q3 fun j hj e => by have := hMo j hj; omega, RR.upd q3 fun j hj e => by have := hRo j hj; omega⟩
            · have d' : ¬ (n : Int) < l.length := by omega
              simp [f5, f6, f8, f10, ta, d', -load_ptr]
              refine after_call (stands_ev MM RR ((p.same sB).same sm) cvp hI'.vals (cvp.limits hm') 5) ?_
              rintro r g6 ⟨rfl, _⟩
              simp
          · exact absurd hI (hno' L)
        · simp [lp _ s14, -load_ptr]
          refine after_call e5 ?_
          rintro r g5 ⟨s5, hq5⟩
          rcases hq5 with ⟨hm5, _⟩ | ⟨_, ⟨c, rv, L', hI', _⟩ | ⟨_, rfl⟩⟩
          · rw [hm'] at hm5; cases hm5
          · exact absurd hI' (hno L')
          · simp
theorem jobsLoads_ev (h : Hp) (vs : List Value) (dts : List Dt) (hr : RepAll Try.prog h 6 [50, 22] vs dts) : EvA Try.prog 10 vs (fun r _ => r = .bool true) h := by
  obtain ⟨a, vs, e, ds, rfl, rfl, h1, hr⟩ := hr.cons
  obtain ⟨b, vs, e, ds, rfl, rfl, h2, hr⟩ := hr.cons
  rw [hr.nil]
  obtain ⟨v, ps, rfl, p⟩ := planV h1
  obtain ⟨l, l3, l4⟩ := h2.bytes (e := 5) (by simp) (by simp) (by kernel_rfl)
  exact loads25_ev p (l3.row (by simp)) (Nat.le_trans l4 (by decide))
end Go.Proofs.Ytklhioaokogpdaa
