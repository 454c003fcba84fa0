/- The law of layer 25: a plan's copy, that may be written over; no condition. -/
import Derived.Test.YtklhioaokogpdaaLawLoads25B
namespace Go.Proofs.Ytklhioaokogpdaa
open Go.Ab
/-- a plan that a call made: its rows may be written -/
structure PlanQ (h : Hp) (k : Nat) (v : Value) (qs : List Pj) : Prop where
  row : Acc k h 9 v qs.length (qs.flatMap Pj.cells)
  nr : ∀ y ∈ qs, Acc k h 1 y.nv y.needs.length (y.needs.map intV)
  nd : ∀ y ∈ qs, ∀ j, inRow y.nv j → ¬ inRow v j
  pw : qs.Pairwise fun y z => ∀ j, inRow y.nv j → ¬ inRow z.nv j
set_option maxHeartbeats 2000000 in
set_option maxRecDepth 6000 in
theorem copiedW_ev {h : Hp} {v : Value} {ps : List Pj} (p : PlanR h v ps) (hbig : ps.length ≤ 2000 ∧ ∀ y ∈ ps, y.needs.length ≤ 2000) :
    EvA Try.prog 48 [.agg #[v]] (fun r h' => Same h h' ∧ ∃ v' qs, r = .agg #[v'] ∧ PlanR h' v' qs ∧ qs.map pkey = ps.map pkey ∧ PlanQ h' h.length v' qs) h := by
  refine EvA.body Try.func48 rfl (by kernel_rfl) (by simp) ?_
  apply Run.ok
  have hcv := (Row.one p.row.1).1
  have hov := (Row.one p.row.1).2
  simp [hcv, hov, zeros]
  have s1 : Same h (h ++ [.cells [v] false none, .cells [.slice none 0 0] false none, .cells [.slice none 0 0] false none]) := Same.new _
  have hB0 : (h ++ [Blk.cells [v] false none, .cells [.slice none 0 0] false none, .cells [.slice none 0 0] false none])[h.length]? = some (.cells [v] false none) := by simp
  have hB1 : (h ++ [Blk.cells [v] false none, .cells [.slice none 0 0] false none, .cells [.slice none 0 0] false none])[h.length + 1]? = some (.cells [.slice none 0 0] false none) := by simp
  have hB2 : (h ++ [Blk.cells [v] false none, .cells [.slice none 0 0] false none, .cells [.slice none 0 0] false none])[h.length + 2]? = some (.cells [.slice none 0 0] false none) := by simp
  generalize h ++ [Blk.cells [v] false none, .cells [.slice none 0 0] false none, .cells [.slice none 0 0] false none] = h1 at s1 hB0 hB1 hB2 ⊢
  have hno : ∀ j, ¬ inRow (.slice none 0 0) j := fun j hj => by obtain ⟨a, n, c, he, _⟩ := hj; cases he
  refine WpA.loop (fun z fr g => ∃ (i : Nat) (ov : Value) (qs : List Pj), z = ps.length - i ∧ i ≤ ps.length ∧ fr 1 = .pointer (some ⟨h.length, 0, none⟩) ∧ fr 2 = .pointer (some ⟨h.length + 1, 0, none⟩) ∧ fr 3 = .pointer (some ⟨h.length + 2, 0, none⟩) ∧ fr 4 = .int .i64 (i : Nat) ∧ Same h g ∧
      g[h.length]? = some (.cells [v] false none) ∧ g[h.length + 1]? = some (.cells [.slice none 0 0] false none) ∧ g[h.length + 2]? = some (.cells [ov] false none) ∧ Acc (h.length + 3) g 9 ov qs.length (qs.flatMap Pj.cells) ∧ qs.map pkey = (ps.take i).map pkey ∧
      (∀ y ∈ qs, Acc (h.length + 3) g 1 y.nv y.needs.length (y.needs.map intV) ∧ y.cells.all oneA = true ∧ ∀ j, inRow y.nv j → ¬ inRow ov j) ∧ qs.Pairwise fun y z => ∀ j, inRow y.nv j → ¬ inRow z.nv j)
    (k := ps.length) ⟨0, .slice none 0 0, [], by simp, by omega, by simp, by simp, by simp, by simp, s1, hB0, hB1, hB2, Acc.nil _, by simp, by simp, by simp⟩ ?_
  clear s1 hB0 hB1 hB2
  rintro z fr g ⟨i, ov, qs, rfl, hi, f1, f2, f3, f4, sm, b0, b1, b2, A, hk, hqs, hpw⟩
  apply Run.ok
  have pg := p.same sm
  have l0 : loadA Try.prog 48 (.pointer (some ⟨h.length, 0, none⟩)) g = some v := by rw [load_at b0 (by simp)]; rfl
  have tg := pg.row.len (P := Try.prog) (t := 48) (e := 67) (by simp)
  have hql : qs.length = i := by
    have := congrArg List.length hk
    rw [List.length_map, List.length_map, List.length_take] at this; omega
  by_cases c : i < ps.length
  · have c' : (i : Int) < ps.length := by omega
    have w1 : IntKind.i64.wrap ((i : Int) + 1) = (i : Int) + 1 := wrap_i64 (by omega) (by omega)
    have ia := PL_ia pg c
    have ld := pg.row.agg (P := Try.prog) (e := 67) (by simp) (by simp) c
    have hmem : ps[i] ∈ ps := List.getElem_mem _
    have hnr := pg.nr _ hmem
    have hone := p.one _ hmem
    have hbn := hbig.2 _ hmem
    have htk : ps.take (i + 1) = ps.take i ++ [ps[i]] := by rw [List.take_add_one, List.getElem?_eq_getElem c]; rfl
    generalize ps[i] = y at ld hnr hone hbn htk
    obtain ⟨c0, nv, c2, c3, c4, c5, needs, tries, limit, manual⟩ := y
    simp only [Pj.cells] at ld hone hnr hbn
    simp only [List.all_cons, List.all_nil, Bool.and_eq_true, Bool.and_true] at hone
    obtain ⟨o0, o1, o2, o3, o4, o5, _, _, _⟩ := hone
    simp [f1, f2, f3, f4, l0, tg, c', ia, ld, cellsOf, spl, o0, o1, o2, o3, o4, o5, -load_ptr]
    have sA : Same g (g ++ [.cells [c0, nv, c2, c3, c4, c5, .int .i64 tries, .int .i64 limit, .bool manual] false none]) := Same.new _
    have hsA : (g ++ [Blk.cells [c0, nv, c2, c3, c4, c5, .int .i64 tries, .int .i64 limit, .bool manual] false none])[g.length]? = some (.cells [c0, nv, c2, c3, c4, c5, .int .i64 tries, .int .i64 limit, .bool manual] false none) := by simp
    have hlA : (g ++ [Blk.cells [c0, nv, c2, c3, c4, c5, .int .i64 tries, .int .i64 limit, .bool manual] false none]).length = g.length + 1 := by simp
    generalize g ++ [Blk.cells [c0, nv, c2, c3, c4, c5, .int .i64 tries, .int .i64 limit, .bool manual] false none] = gA at sA hsA hlA ⊢
    have k1 : ∀ g', Same gA g' → loadA Try.prog 35 (.pointer (some ⟨g.length, 1, none⟩)) g' = some nv := fun g' s => by rw [load_at (s.at hsA) (by simp)]; rfl
    have k6 : ∀ g', Same gA g' → loadA Try.prog 3 (.pointer (some ⟨g.length, 6, none⟩)) g' = some (.int .i64 tries) := fun g' s => by rw [load_at (s.at hsA) (by simp)]; rfl
    have k7 : ∀ g', Same gA g' → loadA Try.prog 3 (.pointer (some ⟨g.length, 7, none⟩)) g' = some (.int .i64 limit) := fun g' s => by rw [load_at (s.at hsA) (by simp)]; rfl
    have k8 : ∀ g', Same gA g' → loadA Try.prog 4 (.pointer (some ⟨g.length, 8, none⟩)) g' = some (.bool manual) := fun g' s => by rw [load_at (s.at hsA) (by simp)]; rfl
    have ko : ∀ g', Same gA g' → loadA Try.prog 48 (.pointer (some ⟨h.length + 2, 0, none⟩)) g' = some ov := fun g' s => by rw [load_at (s.at (sA.at b2)) (by simp)]; rfl
    have sL : Same gA (gA ++ [.cells [] false none]) := Same.new _
    obtain ⟨r7, g7, e7, A7, s67, n7⟩ := Acc.appendLit (P := Try.prog) (h := gA ++ [.cells [] false none]) (z := 1) (k := gA.length) (b := gA.length) (t := 35) (tx := 35) (e := 3) (by_ := 8) (dx := .slice 3) (Nat.le_refl _) (by simp) (by simp) (by simp) (by simp) rfl ((hnr.same sA).same sL).2.1 (by simp) (by omega) (by omega)
    have s7 := sL.trans s67
    have ho7 := (Row.one A7.row).2
    have hc7 := (Row.one A7.row).1
    have sB : Same g7 (g7 ++ [.cells [.string ⟨#[]⟩, r7, .slice none 0 0, .slice none 0 0, .slice none 0 0, .slice none 0 0, .int .i64 tries, .int .i64 limit, .bool manual] false none]) := Same.new _
    have hsB : srcA 9 (.slice (some ⟨g7.length, 0, none⟩) 1 1) (g7 ++ [Blk.cells [.string ⟨#[]⟩, r7, .slice none 0 0, .slice none 0 0, .slice none 0 0, .slice none 0 0, .int .i64 tries, .int .i64 limit, .bool manual] false none]) = some (1, [.string ⟨#[]⟩, r7, .slice none 0 0, .slice none 0 0, .slice none 0 0, .slice none 0 0, .int .i64 tries, .int .i64 limit, .bool manual]) := by simp [srcA]
    have s7B := s7.trans sB
    have smB := (sm.trans sA).trans s7B
    have hgB : (g7 ++ [Blk.cells [.string ⟨#[]⟩, r7, .slice none 0 0, .slice none 0 0, .slice none 0 0, .slice none 0 0, .int .i64 tries, .int .i64 limit, .bool manual] false none]).length = g7.length + 1 := by simp
    have hh := sm.len
    have h2l := hp_lt b2
    have hg7 := s7.len
    have AB := ((A.same sA).same s7).same sB
    obtain ⟨ov', g8, e8, A8, u8, n8⟩ := AB.append (P := Try.prog) (by_ := 160) (t := 48) (tx := 48) (e := 67) (x := .slice (some ⟨g7.length, 0, none⟩) 1 1) (m := 1) (ys := [.string ⟨#[]⟩, r7, .slice none 0 0, .slice none 0 0, .slice none 0 0, .slice none 0 0, .int .i64 tries, .int .i64 limit, .bool manual]) (by omega) (by simp) (by simp) (by simp; rfl) (by simp [isSrc]) hsB (by simp) (by simp only [List.all_cons, List.all_nil, ho7]; rfl) (by omega) (by omega)
    have hlo : ∀ j, inRow ov j → h.length + 3 ≤ j ∧ j < g.length := fun j hj => A.above j hj
    have b28 : g8[h.length + 2]? = some (.cells [ov] false none) := u8.at (s7B.at (sA.at b2)) fun hin => by have := hlo _ hin; omega
    have hc8 := (Row.one A8.row).1
    have ho8 := (Row.one A8.row).2
    have q8 : storeA Try.prog 48 (.pointer (some ⟨h.length + 2, 0, none⟩)) ov' g8 = some (g8.set (h.length + 2) (.cells [ov'] false none)) := by simp [storeA, b28, hc8, ho8, spl]
    have h2l8 := hp_lt b28
    have u9 : Upd (· = h.length + 2) g8 (g8.set (h.length + 2) (.cells [ov'] false none)) := Upd.set (S := (· = h.length + 2)) rfl _
    have b29 : (g8.set (h.length + 2) (.cells [ov'] false none))[h.length + 2]? = some (.cells [ov'] false none) := by simp [h2l8]
    have hg8 := u8.len
    rw [hgB] at n8 hg8
    refine WpA.drawnA [0, 1, 2, 3, 4, 6, 7, 8, 9, 10, 11, 5, 12, 13, 14, 15, 16] [[], [], [], [], [], [2, 3, 4], [], [], [], [], [], [], [], [], [0, 1, 2, 3, 4, 5, 6, 7, 8, 9, 10, 11, 12, 13], [], [0, 1, 2, 3, 4, 5, 6, 7, 8, 9, 10, 11, 12, 13, 14, 15]] (by kernel_rfl) (by decide +kernel) (by decide +kernel) ?_
    simp [f1, f2, f3, f4, ko _ Same.refl, k1 _ Same.refl, k6 _ Same.refl, k7 _ Same.refl, k8 _ Same.refl, ko _ sL, k1 _ sL, k6 _ sL, k7 _ sL, k8 _ sL, ko _ s7, k1 _ s7, k6 _ s7, k7 _ s7, k8 _ s7, ko _ s7B, k1 _ s7B, k6 _ s7B, k7 _ s7B, k8 _ s7B, e7, hc7, ho7, e8, q8, w1, zeros, capO, spl, -load_ptr, -store_ptr, -roundQ_normal, ↓rq]
    generalize g8.set (h.length + 2) (.cells [ov'] false none) = g9 at b29 u9 ⊢
    have sm8 : Same h g8 := Upd.trans smB u8 fun j hj hin => by have := hlo j hin; omega
    have sm9 : Same h g9 := Upd.trans sm8 u9 fun j hj e => by omega
    have b09 : g9[h.length]? = some (.cells [v] false none) := u9.at (u8.at (s7B.at (sA.at b0)) fun hin => by have := hlo _ hin; omega) (by omega)
    have b19 : g9[h.length + 1]? = some (.cells [.slice none 0 0] false none) := u9.at (u8.at (s7B.at (sA.at b1)) fun hin => by have := hlo _ hin; omega) (by omega)
    have A9 := A8.upd u9 fun j hj e => by have := (A8.above j hj).1; omega
    refine ⟨sB.at (s67.at (by simp)), ?_⟩
    refine stop_intro ⟨ps.length - (i + 1), by omega, i + 1, ov', qs ++ [⟨.string ⟨#[]⟩, r7, .slice none 0 0, .slice none 0 0, .slice none 0 0, .slice none 0 0, needs, tries, limit, manual⟩], rfl, by omega, by simp [f1], by simp [f2], by simp [f3], by simp, sm9, b09, b19, b29, ?_, ?_, fun y hy => ?_, ?_⟩
    · rw [List.length_append, List.flatMap_append, List.flatMap_singleton]
      exact A9
    · rw [htk, List.map_append, List.map_append, hk]; rfl
    · rcases List.mem_append.1 hy with hy | hy
      · obtain ⟨y1, y2, y3⟩ := hqs y hy
        have hyl : ∀ j, inRow y.nv j → h.length + 3 ≤ j ∧ j < g.length := fun j hj => y1.above j hj
        refine ⟨((((y1.same sA).same s7).same sB).upd u8 fun j hj => y3 j hj).upd u9 fun j hj e => by have := hyl j hj; omega, y2, fun j hj hin => ?_⟩
        rcases n8 j hin with h1 | h1
        · exact y3 j hj h1
        · have := hyl j hj; omega
      · simp only [List.mem_singleton] at hy
        subst hy
        have h7l : ∀ j, inRow r7 j → gA.length ≤ j ∧ j < g7.length := fun j hj => A7.above j hj
        refine ⟨?_, by simp only [Pj.cells, List.all_cons, List.all_nil, ho7]; rfl, fun j hj hin => ?_⟩
        · have := ((A7.same sB).upd u8 fun j hj hin => by have := h7l j hj; have := hlo j hin; omega).upd u9 fun j hj e => by have := h7l j hj; omega
          exact Acc.down (by omega) this
        · have := h7l j hj
          rcases n8 j hin with h1 | h1
          · have := hlo j h1; omega
          · omega
    · rw [List.pairwise_append]
      refine ⟨hpw, List.pairwise_singleton _ _, fun y hy z hz j hj hin => ?_⟩
      simp only [List.mem_singleton] at hz
      subst hz
      have h1 := ((hqs y hy).1.above j hj).2
      have h2 := (A7.above j hin).1
      omega
  · have c' : ¬ (i : Int) < ps.length := by omega
    rw [List.take_of_length_le (by omega)] at hk
    have hcA := (Row.one A.row).1
    have hoA := (Row.one A.row).2
    have lo : loadA Try.prog 50 (.pointer (some ⟨h.length + 2, 0, none⟩)) g = some (.agg #[ov]) := by simp [b2]
    have q2 : storeA Try.prog 50 (.pointer (some ⟨h.length + 1, 0, none⟩)) (.agg #[ov]) g = some (g.set (h.length + 1) (.cells [ov] false none)) := by simp [storeA, b1, cellsOf, hoA, spl]
    have h1l := hp_lt b1
    have lf : loadA Try.prog 50 (.pointer (some ⟨h.length + 1, 0, none⟩)) (g.set (h.length + 1) (.cells [ov] false none)) = some (.agg #[ov]) := by simp [h1l]
    have u1 : Upd (· = h.length + 1) g (g.set (h.length + 1) (.cells [ov] false none)) := Upd.set (S := (· = h.length + 1)) rfl _
    simp [f1, f2, f3, f4, l0, tg, c', lo, q2, lf, -load_ptr, -store_ptr]
    refine ⟨Upd.trans sm u1 fun j hj e => by omega, qs, ⟨⟨(A.upd u1 fun j hj e => by have := (A.above j hj).1; omega).row, fun _ _ => rfl⟩, fun y hy => ?_, fun y hy => (hqs y hy).2.1, by omega, fun y hy => ?_⟩, hk, ?_, ?_, ?_, hpw⟩
    · exact ((hqs y hy).1.upd u1 fun j hj e => by have := ((hqs y hy).1.above j hj).1; omega).row
    · have : pkey y ∈ ps.map pkey := by rw [← hk]; exact List.mem_map_of_mem hy
      obtain ⟨z, hz, he⟩ := List.mem_map.1 this
      simp only [pkey, Prod.mk.injEq] at he
      have := hbig.2 z hz
      rw [← he.1]; omega
    · exact Acc.down (by omega) (A.upd u1 fun j hj e => by have := (A.above j hj).1; omega)
    · intro y hy
      exact Acc.down (by omega) ((hqs y hy).1.upd u1 fun j hj e => by have := ((hqs y hy).1.above j hj).1; omega)
    · exact fun y hy => (hqs y hy).2.2
/-- the same, whatever is written into it: n jobs, whose needs lie at nv, so many as len -/
structure PlanW (h : Hp) (k : Nat) (v : Value) (n : Nat) (nv : Nat → Value) (len : Nat → Nat) : Prop where
  row : ∃ qs : List Pj, qs.length = n ∧ (∀ q (hq : q < qs.length), qs[q].nv = nv q) ∧ Acc k h 9 v n (qs.flatMap Pj.cells)
  nr : ∀ q, q < n → ∃ ns, Acc k h 1 (nv q) (len q) ns
/-- its rows lie apart, and below K -/
structure PlanD (K : Nat) (v : Value) (n : Nat) (nv : Nat → Value) : Prop where
  nd : ∀ q, q < n → ∀ j, inRow (nv q) j → ¬ inRow v j
  pw : ∀ q r, q < n → r < n → q ≠ r → ∀ j, inRow (nv q) j → ¬ inRow (nv r) j
  lt : (∀ j, inRow v j → j < K) ∧ ∀ q, q < n → ∀ j, inRow (nv q) j → j < K
theorem PlanQ.open {h : Hp} {k : Nat} {v : Value} {qs : List Pj} (w : PlanQ h k v qs) : PlanW h k v qs.length (fun q => (qs.getD q Pj.no).nv) (fun q => (qs.getD q Pj.no).needs.length) ∧ PlanD h.length v qs.length (fun q => (qs.getD q Pj.no).nv) := by
  have hm : ∀ q (hq : q < qs.length), qs.getD q Pj.no ∈ qs := fun q hq => by rw [← getD_at qs Pj.no hq]; exact List.getElem_mem _
  refine ⟨⟨⟨qs, rfl, fun q hq => by rw [getD_at qs Pj.no hq], w.row⟩, fun q hq => ⟨_, w.nr _ (hm q hq)⟩⟩, fun q hq => w.nd _ (hm q hq), fun q r hq hr hne j hj hin => ?_, fun j hj => (w.row.above j hj).2, fun q hq j hj => ((w.nr _ (hm q hq)).above j hj).2⟩
  have hpw := List.pairwise_iff_getElem.1 w.pw
  rw [← getD_at qs Pj.no hq] at hj
  rw [← getD_at qs Pj.no hr] at hin
  rcases Nat.lt_or_gt_of_ne hne with h1 | h1
  · exact hpw q r hq hr h1 j hj hin
  · exact hpw r q hr hq h1 j hin hj
section
variable {h : Hp} {k K n : Nat} {v : Value} {nv : Nat → Value} {len : Nat → Nat}
theorem PlanW.upd {h' : Hp} {S : Nat → Prop} (w : PlanW h k v n nv len) (u : Upd S h h') (h1 : ∀ j, inRow v j → ¬ S j) (h2 : ∀ q, q < n → ∀ j, inRow (nv q) j → ¬ S j) : PlanW h' k v n nv len := by
  obtain ⟨⟨qs, a, b, c⟩, d⟩ := w
  refine ⟨⟨qs, a, b, c.upd u h1⟩, fun q hq => ?_⟩
  obtain ⟨ns, e⟩ := d q hq
  exact ⟨ns, e.upd u (h2 q hq)⟩
theorem PlanW.tlen (w : PlanW h k v n nv len) : lenA Try.prog 48 v h = some (.int .i64 (n : Nat)) := by
  obtain ⟨⟨qs, a, b, c⟩, d⟩ := w
  have t : TRow h 9 v qs Pj.cells := ⟨by rw [a]; exact c.row, fun _ _ => rfl⟩
  rw [t.len (P := Try.prog) (t := 48) (e := 67) (by simp), a]
theorem PlanW.ia (w : PlanW h k v n nv len) {i : Nat} (hi : i < n) : indexAddrA Try.prog 48 v (.int .i64 (i : Int)) = some (.pointer (some ⟨rbl v, rof v + i * 9, none⟩)) := by
  obtain ⟨⟨qs, a, b, c⟩, d⟩ := w
  have t : TRow h 9 v qs Pj.cells := ⟨by rw [a]; exact c.row, fun _ _ => rfl⟩
  exact t.ia (P := Try.prog) (t := 48) (e := 67) (by simp) (by simp) (by omega) .i64
theorem PlanW.ln (w : PlanW h k v n nv len) {i : Nat} (hi : i < n) : loadA Try.prog 35 (.pointer (some ⟨rbl v, rof v + i * 9 + 1, none⟩)) h = some (nv i) := by
  obtain ⟨⟨qs, a, b, c⟩, d⟩ := w
  have t : TRow h 9 v qs Pj.cells := ⟨by rw [a]; exact c.row, fun _ _ => rfl⟩
  have hi' : i < qs.length := by omega
  rw [t.cell (P := Try.prog) (f := 35) (j := 1) (by simp) hi' (by omega), ← b i hi']; rfl
theorem PlanW.nlen (w : PlanW h k v n nv len) {i : Nat} (hi : i < n) : lenA Try.prog 35 (nv i) h = some (.int .i64 (len i : Nat)) := by
  obtain ⟨ns, e⟩ := w.nr i hi
  exact Row.len (P := Try.prog) (t := 35) (e := 3) e.row (by simp)
theorem PlanW.nia (w : PlanW h k v n nv len) {i q : Nat} (hi : i < n) (hq : q < len i) : indexAddrA Try.prog 35 (nv i) (.int .i64 (q : Int)) = some (.pointer (some ⟨rbl (nv i), rof (nv i) + q, none⟩)) := by
  obtain ⟨ns, e⟩ := w.nr i hi
  exact Row.ia1 (P := Try.prog) (t := 35) (e := 3) e.row (by simp) (by simp) hq .i64
theorem PlanW.need (w : PlanW h k v n nv len) (d : PlanD K v n nv) {i q : Nat} (hi : i < n) (hq : q < len i) (x : Int) :
    ∃ h', storeA Try.prog 3 (.pointer (some ⟨rbl (nv i), rof (nv i) + q, none⟩)) (.int .i64 x) h = some h' ∧ PlanW h' k v n nv len ∧ Upd (fun j => k ≤ j ∧ j < K) h h' := by
  obtain ⟨ns, e⟩ := w.nr i hi
  obtain ⟨h', e1, e2, e3, e4⟩ := e.storec (P := Try.prog) (e := 3) (x := .int .i64 x) (i := q) (j := 0) (by simp) rfl hq (by omega)
  have hin := Row.inRow e.row hq
  have hin2 := hin
  refine ⟨h', by simpa using e1, ⟨?_, fun r hr => ?_⟩, e3.mono fun j _ hj => by rw [hj]; exact ⟨(e.above _ hin).1, d.lt.2 i hi _ hin⟩⟩
  · obtain ⟨qs, a, b, c⟩ := w.row
    exact ⟨qs, a, b, c.upd e3 fun j hj he => by rw [he] at hj; exact d.nd i hi _ hin hj⟩
  · by_cases hri : r = i
    · subst hri; exact ⟨_, e2⟩
    · obtain ⟨ms, f⟩ := w.nr r hr
      exact ⟨ms, f.upd e3 fun j hj he => by rw [he] at hj; exact d.pw r i hr hi hri _ hj hin⟩
theorem PlanW.tries (w : PlanW h k v n nv len) (d : PlanD K v n nv) {i : Nat} (hi : i < n) (x : Int) :
    ∃ h', storeA Try.prog 3 (.pointer (some ⟨rbl v, rof v + i * 9 + 6, none⟩)) (.int .i64 x) h = some h' ∧ PlanW h' k v n nv len ∧ Upd (fun j => k ≤ j ∧ j < K) h h' := by
  obtain ⟨⟨qs, a, b, c⟩, e⟩ := w
  obtain ⟨h', e1, e2, e3, e4⟩ := c.storec (P := Try.prog) (e := 3) (x := .int .i64 x) (i := i) (j := 6) (by simp) rfl hi (by omega)
  have hi' : i < qs.length := by omega
  have t : TRow h 9 v qs Pj.cells := ⟨by rw [a]; exact c.row, fun _ _ => rfl⟩
  have hin : inRow v (rbl v) := t.1.inRow hi'
  rw [flatMap_setc (cells := Pj.cells) (z := 9) qs i 6 { qs[i] with tries := x } _ (fun _ _ => rfl) hi' (by omega) rfl] at e2
  refine ⟨h', e1, ⟨⟨_, by simpa using a, fun q hq => ?_, e2⟩, fun q hq => ?_⟩, e3.mono fun j _ hj => by rw [hj]; exact ⟨(c.above _ hin).1, d.lt.1 _ hin⟩⟩
  · rw [List.getElem_set]
    split
    · rename_i he; subst he; exact b i hi'
    · exact b q (by simpa using hq)
  · obtain ⟨ms, f⟩ := e q hq
    exact ⟨ms, f.upd e3 fun j hj he => by rw [he] at hj; exact d.nd q hq _ hj hin⟩
end
end Go.Proofs.Ytklhioaokogpdaa
