/- jobs: made of a plan; no condition. -/
import Derived.Test.YtklhioaokogpdaaJobsD
import Derived.Test.YtklhioaokogpdaaDraws
namespace Go.Proofs.Ytklhioaokogpdaa
open Go.Ab
theorem iclone_ev {h : Hp} {v : Value} {l : List Int} (ha : Row h 1 v l.length (l.map intV)) (hl : l.length ≤ 140737488355) :
    EvA Try.prog 121 [v] (fun r h' => Acc h.length h' 1 r l.length (l.map intV) ∧ Same h h') h := by
  refine EvA.body Try.func121 rfl (by kernel_rfl) (by simp) ?_
  apply Run.ok
  have hsl := ha.same (Same.new [.cells [] false none])
  rcases row_nil ha with ⟨rfl, hn⟩ | ⟨a, c, rfl⟩
  · have : l = [] := List.eq_nil_of_length_eq_zero hn
    subst this
    simp
    exact ⟨Acc.nil _, Same.refl⟩
  · obtain ⟨v', h', e1, e2, e3, _⟩ := Acc.appendLit (P := Try.prog) (h := h ++ [.cells [] false none]) (z := 1) (k := h.length) (b := h.length) (t := 35) (tx := 35) (e := 3) (by_ := 8) (dx := .slice 3) (Nat.le_refl _) (by simp) (by simp) (by simp) (by simp) rfl hsl.2.1 (by simp) (by omega) (by omega)
    simp [zeros, capO, e1]
    exact ⟨e2, Same.trans (Same.new _) e3⟩
/-- jobs as a plan has them -/
def Conv (ps : List Pj) (js : List Jb) : Prop := js.length = ps.length ∧ ∀ k (hk : k < ps.length), (js.getD k Jb.no).needs = (ps[k].needs.map Int.toNat) ∧ (js.getD k Jb.no).tries = ps[k].tries ∧ (js.getD k Jb.no).limit = ps[k].limit ∧ (js.getD k Jb.no).manual = ps[k].manual
theorem jbCells_len (l : List Jb) : (l.flatMap Jb.cells).length = l.length * 4 := by
  induction l with
  | nil => rfl
  | cons x l ih => rw [List.flatMap_cons, List.length_append, ih, List.length_cons]; show 4 + _ = _; omega
theorem replicate_snoc {α : Type} (n : Nat) (x : α) : List.replicate n x ++ [x] = List.replicate (n + 1) x := by
  induction n with
  | zero => rfl
  | succ n ih => rw [List.replicate_succ, List.cons_append, ih]; rfl
set_option maxHeartbeats 2000000 in
set_option maxRecDepth 6000 in
theorem blank_ev {h : Hp} {v : Value} {ps : List Pj} (p : PlanR h v ps) (hm : mayP ps = true) :
    EvA Try.prog 77 [.agg #[v]] (fun r h' => Same h h' ∧ ∃ b jv lv js, r = .pointer (some ⟨b, 0, none⟩) ∧ JM h' h.length b jv lv js (List.replicate js.length St.no) ∧ Conv ps js) h := by
  obtain ⟨h24, hgood⟩ := mayP_spec hm
  refine EvA.body Try.func77 rfl (by kernel_rfl) (by simp) ?_
  apply Run.ok
  have hcv := (Row.one p.row.1).1
  have hov := (Row.one p.row.1).2
  simp [hcv, hov, cellsOf, spl]
  have s1 : Same h (h ++ [.cells [v] false none, .cells [.slice none 0 0, .slice none 0 0] false none]) := Same.new _
  have hB : (h ++ [Blk.cells [v] false none, .cells [.slice none 0 0, .slice none 0 0] false none])[h.length]? = some (.cells [v] false none) := by simp
  have hB1 : (h ++ [Blk.cells [v] false none, .cells [.slice none 0 0, .slice none 0 0] false none])[h.length + 1]? = some (.cells [.slice none 0 0, .slice none 0 0] false none) := by simp
  have hno : ∀ j, ¬ inRow (.slice none 0 0) j := fun j hj => by obtain ⟨a, n, c, he, _⟩ := hj; cases he
  obtain ⟨b, hb⟩ : ∃ b, b = h.length + 1 := ⟨_, rfl⟩
  rw [← hb] at hB1 ⊢
  generalize h ++ [Blk.cells [v] false none, .cells [.slice none 0 0, .slice none 0 0] false none] = h1 at s1 hB hB1 ⊢
  have l1 : loadA Try.prog 48 (.pointer (some ⟨h.length, 0, none⟩)) h1 = some v := by rw [load_at hB (by simp)]; rfl
  have p1 := p.same s1
  have hl1 := p1.row.len (P := Try.prog) (t := 48) (e := 67) (by simp)
  simp [l1, hl1, -load_ptr]
  refine WpA.loop (fun z fr g => ∃ (i : Nat) (jv lv : Value) (js : List Jb), z = ps.length - i ∧ i ≤ ps.length ∧ fr 3 = .pointer (some ⟨b, 0, none⟩) ∧ fr 9 = v ∧ fr 10 = .int .i64 (ps.length : Nat) ∧ fr 11 = .int .i64 (i : Nat) ∧ Same h g ∧ JM g h.length b jv lv js (List.replicate js.length St.no) ∧ Conv (ps.take i) js)
    (k := ps.length) ⟨0, .slice none 0 0, .slice none 0 0, [], by simp, by omega, by simp [hb], by simp, by simp, by simp, s1,
      ⟨hB1, by omega, Acc.nil _, by simp, Acc.nil _, fun j hj => absurd hj (hno j), fun j hj => absurd hj (hno j), by simp, by simp, fun k n hn => (by simp [Jb.no] at hn), by simp, by simp⟩, ⟨by simp, by simp⟩⟩ ?_
  clear s1 hB hB1 l1 p1 hl1
  rintro z fr g ⟨i, jv, lv, js, rfl, hi, f3, f9, f10, f11, sm, m, cv⟩
  apply Run.ok
  have hjl : js.length = i := by rw [cv.1, List.length_take]; omega
  by_cases c : i < ps.length
  · have c' : (i : Int) < ps.length := by omega
    have w1 : IntKind.i64.wrap ((i : Int) + 1) = (i : Int) + 1 := wrap_i64 (by omega) (by omega)
    have pg := p.same sm
    have ia := pg.row.ia (P := Try.prog) (t := 48) (e := 67) (by simp) (by simp) c .i64
    have ld := pg.row.agg (P := Try.prog) (e := 67) (by simp) (by simp) c
    have hmem : ps[i] ∈ ps := List.getElem_mem _
    have hnr := pg.nr _ hmem
    have hone := p.one _ hmem
    have hgd := hgood i c
    have htk : ps.take (i + 1) = ps.take i ++ [ps[i]] := by rw [List.take_add_one, List.getElem?_eq_getElem c]; rfl
    generalize ps[i] = y at ld hnr hone hgd htk
    obtain ⟨c0, nv, c2, c3, c4, c5, needs, tries, limit, manual⟩ := y
    simp only [Pj.cells] at ld hone hnr hgd
    obtain ⟨_, _, _, _, hng, hnl⟩ := hgd
    simp only [List.all_cons, List.all_nil, Bool.and_eq_true, Bool.and_true] at hone
    obtain ⟨o0, o1, o2, o3, o4, o5, _, _, _⟩ := hone
    simp [f3, f9, f10, f11, c', ia, ld, cellsOf, spl, o0, o1, o2, o3, o4, o5, -load_ptr]
    have sA : Same g (g ++ [.cells [c0, nv, c2, c3, c4, c5, .int .i64 tries, .int .i64 limit, .bool manual] false none]) := Same.new _
    have hsA : (g ++ [Blk.cells [c0, nv, c2, c3, c4, c5, .int .i64 tries, .int .i64 limit, .bool manual] false none])[g.length]? = some (.cells [c0, nv, c2, c3, c4, c5, .int .i64 tries, .int .i64 limit, .bool manual] false none) := by simp
    generalize g ++ [Blk.cells [c0, nv, c2, c3, c4, c5, .int .i64 tries, .int .i64 limit, .bool manual] false none] = gA at sA hsA ⊢
    have k1 : ∀ g', Same gA g' → loadA Try.prog 35 (.pointer (some ⟨g.length, 1, none⟩)) g' = some nv := fun g' s => by rw [load_at (s.at hsA) (by simp)]; rfl
    have k6 : ∀ g', Same gA g' → loadA Try.prog 3 (.pointer (some ⟨g.length, 6, none⟩)) g' = some (.int .i64 tries) := fun g' s => by rw [load_at (s.at hsA) (by simp)]; rfl
    have k7 : ∀ g', Same gA g' → loadA Try.prog 3 (.pointer (some ⟨g.length, 7, none⟩)) g' = some (.int .i64 limit) := fun g' s => by rw [load_at (s.at hsA) (by simp)]; rfl
    have k8 : ∀ g', Same gA g' → loadA Try.prog 4 (.pointer (some ⟨g.length, 8, none⟩)) g' = some (.bool manual) := fun g' s => by rw [load_at (s.at hsA) (by simp)]; rfl
    have mA := m.same sA
    have smA := sm.trans sA
    have j0A := mA.j0
    refine WpA.drawnT [0, 1, 2, 3, 4, 5, 6, 8, 9, 10, 11, 12, 13, 7, 14, 15, 16, 17, 18, 19] [[], [], [], [], [], [], [], [5, 6], [], [], [], [], [], [], [], [], [1, 2, 3, 4, 5, 6, 7, 8, 9, 10, 11, 12, 13, 14, 15], [], [], [0, 1, 2, 3, 4, 5, 6, 7, 8, 9, 10, 11, 12, 13, 14, 15, 16, 17, 18]] [[], [], [1], [1, 2], [1, 2, 3], [], [5], [5, 6], [], [8], [], [10], [], [12], [5, 6, 7, 8, 9, 10, 11, 12, 13], [5, 6, 7, 8, 9, 10, 11, 12, 13, 14], [1, 2, 3, 4, 5, 6, 7, 8, 9, 10, 11, 12, 13, 14, 15], [0, 1, 2, 3, 4, 5, 6, 7, 8, 9, 10, 11, 12, 13, 14, 15, 16], [0, 1, 2, 3, 4, 5, 6, 7, 8, 9, 10, 11, 12, 13, 14, 15, 16, 17], [0, 1, 2, 3, 4, 5, 6, 7, 8, 9, 10, 11, 12, 13, 14, 15, 16, 17, 18]] (by kernel_rfl) (by decide +kernel) (by decide +kernel) (by decide +kernel) ?_
    simp [f3, f9, f10, f11, j0A, k1 _ Same.refl, k6 _ Same.refl, k7 _ Same.refl, k8 _ Same.refl, -load_ptr]
    refine after_call (iclone_ev (hnr.same sA) (by omega)) ?_
    rintro r7 g7 ⟨A7, s7⟩
    have m7 := mA.same s7
    have sm7 := smA.trans s7
    have hc7 := (Row.one A7.row).1
    have ho7 := (Row.one A7.row).2
    have sB : Same g7 (g7 ++ [.cells [r7, .int .i64 tries, .int .i64 limit, .bool manual] false none]) := Same.new _
    have mB := m7.same sB
    have A7B := A7.same sB
    have hsB : srcA 4 (.slice (some ⟨g7.length, 0, none⟩) 1 1) (g7 ++ [Blk.cells [r7, .int .i64 tries, .int .i64 limit, .bool manual] false none]) = some (1, [r7, .int .i64 tries, .int .i64 limit, .bool manual]) := by simp [srcA]
    have smB := sm7.trans sB
    have jB := mB.j0
    have k6B := k6 _ (s7.trans sB)
    have k7B := k7 _ (s7.trans sB)
    have k8B := k8 _ (s7.trans sB)
    have jg7 := m7.j0
    have k67 := k6 _ s7
    have k77 := k7 _ s7
    have k87 := k8 _ s7
    have k1B := k1 _ (s7.trans sB)
    have k17 := k1 _ s7
    have hgl := hp_lt m.at_
    have hgA := sA.len
    have hg7 := s7.len
    obtain ⟨jv', g8, e8, A8, u8, n8⟩ := mB.jr.append (P := Try.prog) (by_ := 48) (t := 111) (tx := 111) (e := 128) (x := .slice (some ⟨g7.length, 0, none⟩) 1 1) (m := 1) (ys := [r7, .int .i64 tries, .int .i64 limit, .bool manual]) smB.len (by simp) (by simp) (by simp; rfl) (by simp [isSrc]) hsB (by simp) (by simp only [List.all_cons, List.all_nil, ho7]; rfl) (by omega) (by omega)
    have hB8 : g8[b]? = some (.cells [jv, lv] false none) := u8.at mB.at_ fun hin => m.djb b hin rfl
    have hb8 := hp_lt hB8
    have hc8 := (Row.one A8.row).1
    have ho8 := (Row.one A8.row).2
    have q8 : storeA Try.prog 111 (.pointer (some ⟨b, 0, none⟩)) jv' g8 = some (g8.set b (.cells [jv', lv] false none)) := by simp [storeA, hB8, hc8, ho8, spl]
    have hB9 : (g8.set b (.cells [jv', lv] false none))[b]? = some (.cells [jv', lv] false none) := by simp [hb8]
    have u9 : Upd (· = b) g8 (g8.set b (.cells [jv', lv] false none)) := Upd.set (S := (· = b)) rfl _
    have hg8 := u8.len
    simp [f3, jg7, jB, k17, k1B, k67, k77, k87, k6B, k7B, k8B, hc7, ho7, e8, q8, zeros, capO, spl, -load_ptr, -store_ptr]
    generalize g8.set b (.cells [jv', lv] false none) = g9 at hB9 u9 ⊢
    have l9 : loadA Try.prog 56 (.pointer (some ⟨b, 1, none⟩)) g9 = some lv := by rw [load_at hB9 (by simp)]; rfl
    have hb9 := u9.len
    have sC : Same g9 (g9 ++ [.cells St.no.cells false none]) := Same.new _
    have lw8 := (mB.lw.upd u8 fun j hj hin => (m.dj j hj).2.1 hin).upd u9 fun j hj hin => (m.dj j hj).1 hin
    have hsC : srcA 6 (.slice (some ⟨g9.length, 0, none⟩) 1 1) (g9 ++ [Blk.cells St.no.cells false none]) = some (1, St.no.cells) := by simp [srcA, stA_cells, St.no]
    have smh : h.length ≤ g9.length := by have := smB.len; omega
    obtain ⟨lv', g10, e10, A10, u10, n10⟩ := (lw8.same sC).append (P := Try.prog) (by_ := 48) (t := 56) (tx := 56) (e := 63) (x := .slice (some ⟨g9.length, 0, none⟩) 1 1) (m := 1) (ys := St.no.cells) (by simp; omega) (by simp) (by simp) (by simp; rfl) (by simp [isSrc]) hsC (by simp [stA_cells]) rfl (by simp; omega) (by simp; omega)
    have hB10 : g10[b]? = some (.cells [jv', lv] false none) := u10.at (sC.at hB9) fun hin => (m.dj b hin).1 rfl
    have hb10 := hp_lt hB10
    have hc10 := (Row.one A10.row).1
    have ho10 := (Row.one A10.row).2
    have q10 : storeA Try.prog 56 (.pointer (some ⟨b, 1, none⟩)) lv' g10 = some (g10.set b (.cells [jv', lv'] false none)) := by simp [storeA, hB10, hc10, ho10, spl]
    have hB11 : (g10.set b (.cells [jv', lv'] false none))[b]? = some (.cells [jv', lv'] false none) := by simp [hb10]
    have u11 : Upd (· = b) g10 (g10.set b (.cells [jv', lv'] false none)) := Upd.set (S := (· = b)) rfl _
    simp only [stA_cells, St.no] at e10
    simp at e10
    simp [f3, f11, l9, e10, q10, w1, zeros, capO, spl, -load_ptr, -store_ptr, -roundQ_normal, ↓rq]
    generalize g10.set b (.cells [jv', lv'] false none) = g11 at hB11 u11 ⊢
    have hjA : ∀ j, inRow jv j → h.length ≤ j ∧ j < g.length := fun j hj => m.jr.above j hj
    have hlA : ∀ j, inRow lv j → h.length ≤ j ∧ j < g.length := fun j hj => m.lw.above j hj
    have hnA : ∀ y ∈ js, ∀ j, inRow y.nv j → j < g.length := fun y hy j hj => ((m.nr y hy).above j hj).2
    have h7A : ∀ j, inRow r7 j → gA.length ≤ j ∧ j < g7.length := fun j hj => A7.above j hj
    have h8A : ∀ j, inRow jv' j → j < g8.length := fun j hj => (A8.above j hj).2
    have hkb := m.kb
    have hsm := sm.len
    have hgB : (g7 ++ [Blk.cells [r7, .int .i64 tries, .int .i64 limit, .bool manual] false none]).length = g7.length + 1 := by simp
    have hgC : (g9 ++ [Blk.cells St.no.cells false none]).length = g9.length + 1 := by simp
    rw [hgB] at n8 hg8
    rw [hgC] at n10
    have sm8 : Same h g8 := Upd.trans smB u8 fun j hj hin => by have := hjA j hin; omega
    have sm9 : Same h g9 := Upd.trans sm8 u9 fun j hj e => by omega
    have sm10 : Same h g10 := Upd.trans (sm9.trans sC) u10 fun j hj hin => by have := hlA j hin; omega
    have sm11 : Same h g11 := Upd.trans sm10 u11 fun j hj e => by omega
    have nj : ∀ j, inRow jv' j → j ≠ b ∧ ¬ inRow lv j := fun j hj => by
      rcases n8 j hj with h1 | h1
      · exact ⟨m.djb j h1, fun h2 => (m.dj j h2).2.1 h1⟩
      · exact ⟨by omega, fun h2 => by have := hlA j h2; omega⟩
    have n7 : ∀ j, inRow r7 j → j ≠ b ∧ ¬ inRow jv j ∧ ¬ inRow lv j := fun j hj => by
      have h1 := h7A j hj
      exact ⟨by omega, fun h2 => by have := hjA j h2; omega, fun h2 => by have := hlA j h2; omega⟩
    have hjl' : (js ++ [(⟨r7, needs.map Int.toNat, tries, limit, manual⟩ : Jb)]).length = js.length + 1 := by simp
    have hnm : (needs.map Int.toNat).map needV = needs.map intV := by
      rw [List.map_map]
      refine List.map_congr_left fun n hn => ?_
      have := hng n hn
      simp only [Function.comp_apply, needV, intV]
      congr 1; omega
    refine stop_intro ⟨ps.length - (i + 1), by omega, i + 1, jv', lv', js ++ [⟨r7, needs.map Int.toNat, tries, limit, manual⟩], rfl, by omega, by simp [f3], by simp [f9], by simp [f10], by simp, sm11,
      ⟨hB11, hkb, ?_, ?_, ?_, ?_, ?_, ?_, ?_, ?_, ?_, ?_⟩, ?_, ?_⟩
    · have := (((A8.upd u9 fun j hj => (nj j hj).1).same sC).upd u10 fun j hj => (nj j hj).2).upd u11 fun j hj => (nj j hj).1
      rw [hjl', List.flatMap_append]
      exact this
    · intro y hy
      rcases List.mem_append.1 hy with hy | hy
      · exact (((((mB.nr y hy).upd u8 fun j hj => (m.djn y hy j hj).2).upd u9 fun j hj => (m.djn y hy j hj).1).same sC).upd u10 fun j hj hin => (m.dj j hin).2.2 y hy hj).upd u11 fun j hj => (m.djn y hy j hj).1
      · simp only [List.mem_singleton] at hy
        subst hy
        have := (((((A7.same sB).upd u8 fun j hj => (n7 j hj).2.1).upd u9 fun j hj => (n7 j hj).1).same sC).upd u10 fun j hj => (n7 j hj).2.2).upd u11 fun j hj => (n7 j hj).1
        simp only [List.length_map]
        rw [hnm]
        exact Acc.down (by omega) this
    · have := A10.upd u11 fun j hj e => by
        rcases n10 j hj with h1 | h1
        · exact (m.dj j h1).1 e
        · omega
      rw [hjl', ← replicate_snoc, List.length_append, List.flatMap_append]
      exact this
    · intro j hj
      rcases n10 j hj with h1 | h1
      · have h2 := hlA j h1
        refine ⟨(m.dj j h1).1, fun h3 => (nj j h3).2 h1, fun y hy h3 => ?_⟩
        rcases List.mem_append.1 hy with hy | hy
        · exact (m.dj j h1).2.2 y hy h3
        · simp only [List.mem_singleton] at hy
          subst hy
          exact (n7 j h3).2.2 h1
      · refine ⟨by omega, fun h3 => by have := h8A j h3; omega, fun y hy h3 => ?_⟩
        rcases List.mem_append.1 hy with hy | hy
        · have := hnA y hy j h3; omega
        · simp only [List.mem_singleton] at hy
          subst hy
          have := h7A j h3; omega
    · intro j hj; exact (nj j hj).1
    · intro y hy j hj
      rcases List.mem_append.1 hy with hy | hy
      · have h1 := hnA y hy j hj
        refine ⟨(m.djn y hy j hj).1, fun h2 => ?_⟩
        rcases n8 j h2 with h3 | h3
        · exact (m.djn y hy j hj).2 h3
        · omega
      · simp only [List.mem_singleton] at hy
        subst hy
        have h1 := h7A j hj
        refine ⟨(n7 j hj).1, fun h2 => ?_⟩
        rcases n8 j h2 with h3 | h3
        · exact (n7 j hj).2.1 h3
        · omega
    · simp
    · intro k n hn
      rw [List.getD_eq_getElem?_getD] at hn
      rcases Nat.lt_trichotomy k js.length with hk | hk | hk
      · rw [List.getElem?_append_left hk, ← List.getD_eq_getElem?_getD] at hn
        exact m.wf k n hn
      · rw [List.getElem?_append_right (by omega), hk, Nat.sub_self] at hn
        simp at hn
        obtain ⟨x, hx, rfl⟩ := hn
        have := hng x hx
        omega
      · rw [List.getElem?_eq_none (by simp; omega)] at hn
        simp [Jb.no] at hn
    · omega
    · intro y hy
      rcases List.mem_append.1 hy with hy | hy
      · exact m.few y hy
      · simp only [List.mem_singleton] at hy
        subst hy
        simp; omega
    · rw [hjl', List.length_take]; omega
    · intro k hk
      rw [List.length_take] at hk
      rcases Nat.lt_or_ge k i with h1 | h1
      · have := cv.2 k (by rw [List.length_take]; omega)
        rw [List.getElem_take] at this ⊢
        rw [List.getD_eq_getElem?_getD, List.getElem?_append_left (by omega), ← List.getD_eq_getElem?_getD]
        exact this
      · have hki : k = i := by omega
        subst hki
        have hg : (ps.take (k + 1))[k]'(by rw [List.length_take]; exact hk) = ⟨c0, nv, c2, c3, c4, c5, needs, tries, limit, manual⟩ := by
          simp only [htk]
          rw [List.getElem_append_right (by rw [List.length_take]; omega)]
          simp
        rw [hg, List.getD_eq_getElem?_getD, List.getElem?_append_right (by omega), hjl, Nat.sub_self]
        exact ⟨rfl, rfl, rfl, rfl⟩
  · have c' : ¬ (i : Int) < ps.length := by omega
    rw [List.take_of_length_le (by omega)] at cv
    simp [f3, f9, f10, f11, c']
    exact ⟨sm, jv, lv, js, m, cv⟩
theorem Conv.tries {ps : List Pj} {js : List Jb} (cv : Conv ps js) (hm : mayP ps = true) : ∀ k, k < js.length → 1 ≤ (js.getD k Jb.no).tries ∧ (js.getD k Jb.no).tries ≤ 5 := by
  intro k hk
  have hk' : k < ps.length := by rw [← cv.1]; exact hk
  have h1 := (mayP_spec hm).2 k hk'
  have h2 := (cv.2 k hk').2.1
  rw [h2]; exact ⟨h1.1, h1.2.1⟩
theorem newJ_ev {h : Hp} {v : Value} {ps : List Pj} (p : PlanR h v ps) :
    EvA Try.prog 30 [.agg #[v]] (fun r h' => Same h h' ∧ ((mayP ps = true ∧ ∃ b jv lv js, r = .tuple #[.pointer (some ⟨b, 0, none⟩), .int .i64 0] ∧ JM h' h.length b jv lv js (settle js (List.replicate js.length St.no)) ∧ Conv ps js) ∨ (mayP ps = false ∧ r = .tuple #[.pointer none, .int .i64 1]))) h := by
  refine EvA.body Try.func30 rfl (by kernel_rfl) (by simp) ?_
  apply Run.ok
  have hcv := (Row.one p.row.1).1
  have hov := (Row.one p.row.1).2
  simp [hcv, hov]
  have s1 : Same h (h ++ [.cells [v] false none]) := Same.new _
  have hB : (h ++ [Blk.cells [v] false none])[h.length]? = some (.cells [v] false none) := by simp
  have hl1 : (h ++ [Blk.cells [v] false none]).length = h.length + 1 := by simp
  generalize h ++ [Blk.cells [v] false none] = h1 at s1 hB hl1 ⊢
  have l1 : ∀ g, Same h1 g → loadA Try.prog 50 (.pointer (some ⟨h.length, 0, none⟩)) g = some (.agg #[v]) := fun g s => by simp [s.at hB]
  refine after_call (may_ev (p.same s1)) ?_
  rintro r h2 ⟨rfl, s2⟩
  cases hm : mayP ps with
  | false =>
    simp
    exact s1.trans s2
  | true =>
    simp [l1 _ s2, -load_ptr]
    refine after_call (blank_ev (p.same (s1.trans s2)) hm) ?_
    rintro r h3 ⟨s3, b, jv, lv, js, rfl, m, cv⟩
    simp
    refine after_call (settle_ev m) ?_
    rintro r h4 ⟨m4, u4⟩
    simp
    have hb2 := s2.len
    have sm3 := (s1.trans s2).trans s3
    refine ⟨Upd.trans sm3 u4 fun j hj hin => by have := (m.lw.above j hin).1; omega, jv, lv, js, ?_, cv⟩
    exact ⟨m4.at_, by have := m4.kb; omega, Acc.down (by omega) m4.jr, fun y hy => Acc.down (by omega) (m4.nr y hy), Acc.down (by omega) m4.lw, m4.dj, m4.djb, m4.djn, m4.len, m4.wf, m4.short, m4.few⟩
/-- are all at their end? -/
def overJ (l : List St) : Bool := l.all fun x => endS x.s
theorem jover1_ev (i : Int) (x : St) (h : Hp) : EvA Try.prog 81 [.int .i64 i, .agg x.cells.toArray] (fun r h' => r = .bool (!endS x.s) ∧ Same h h') h := by
  refine EvA.body Try.func81 rfl (by kernel_rfl) (by simp) ?_
  apply Run.ok
  rw [stA_cells]
  simp
  refine after_call (ended_ev x.s _) ?_
  rintro r h2 ⟨rfl, rfl⟩
  simp
  exact Same.new _
/-- the places of the first n for which a thing holds -/
def picks (f : Nat → St → Bool) (l : List St) (n : Nat) : List Int := ((List.range n).filter fun i => f i (l.getD i St.no)).map fun (i : Nat) => (i : Int)
theorem picks_succ (f : Nat → St → Bool) (l : List St) (n : Nat) : picks f l (n + 1) = picks f l n ++ (if f n (l.getD n St.no) then [(n : Int)] else []) := by
  unfold picks
  rw [List.range_succ, List.filter_append, List.map_append]
  congr 1
  by_cases c : f n (l.getD n St.no) = true
  · simp only [List.filter_cons, c, if_true, List.filter_nil, List.map_cons, List.map_nil]
  · rw [Bool.not_eq_true] at c
    simp only [List.filter_cons, c, Bool.false_eq_true, if_false, List.filter_nil, List.map_nil]
theorem picks_len (f : Nat → St → Bool) (l : List St) (n : Nat) : (picks f l n).length ≤ n := by
  unfold picks
  rw [List.length_map]
  exact Nat.le_trans (List.length_filter_le _ _) (by simp)
set_option maxHeartbeats 1000000 in
theorem pick_ev {h : Hp} {k b : Nat} {jv lv : Value} {js : List Jb} {l : List St} (m : JM h k b jv lv js l) (fv : Value) (f : Nat → St → Bool)
    (hf : ∃ fn cap, fv = .func (.func fn) #[] cap ∧ ∀ (i : Nat) (x : St) (g : Hp), Same h g → i < l.length → x = l.getD i St.no → EvA Try.prog fn (.int .i64 (i : Nat) :: .agg x.cells.toArray :: cap.toList) (fun r h' => r = .bool (f i x) ∧ Same g h') g) :
    EvA Try.prog 80 [.pointer (some ⟨b, 0, none⟩), fv] (fun r h' => Acc h.length h' 1 r (picks f l l.length).length ((picks f l l.length).map intV) ∧ Same h h') h := by
  obtain ⟨fn, cap, rfl, hf⟩ := hf
  refine EvA.body Try.func80 rfl (by kernel_rfl) (by simp) ?_
  apply Run.ok
  have l0 := m.l0
  have tl := m.tl
  have h24 := m.l24
  simp [l0, tl, -load_ptr]
  refine WpA.loop (fun z fr g => ∃ (n : Nat) (a : Value), z = l.length - n ∧ n ≤ l.length ∧ fr 1 = .func (.func fn) #[] cap ∧ fr 5 = a ∧ fr 13 = lv ∧ fr 14 = .int .i64 (l.length : Nat) ∧ fr 15 = .int .i64 (n : Nat) ∧ Same h g ∧ Acc h.length g 1 a (picks f l n).length ((picks f l n).map intV))
    (k := l.length) ⟨0, _, by simp, by omega, by simp, rfl, by simp, by simp, by simp, Same.refl, by simpa [picks] using Acc.nil _⟩ ?_
  clear l0 tl
  rintro z fr g ⟨n, a, rfl, hn, f1, f5, f13, f14, f15, sm, A⟩
  apply Run.ok
  by_cases c : n < l.length
  · have c' : (n : Int) < l.length := by omega
    have w1 : IntKind.i64.wrap ((n : Int) + 1) = (n : Int) + 1 := wrap_i64 (by omega) (by omega)
    have M := m.same sm
    have ia := M.ia c .i64
    have ld := M.ag c
    have hps := picks_succ f l n
    have hpl := picks_len f l n
    have hff := hf n (l.getD n St.no)
    generalize l.getD n St.no = x at ld hps hff
    simp [f1, f5, f13, f14, f15, c', ia, ld, stA_cells, cellsOf, spl, -load_ptr]
    have sA : Same g (g ++ [.cells x.cells false none]) := Same.new _
    have hsA : (g ++ [Blk.cells x.cells false none])[g.length]? = some (.cells x.cells false none) := by simp
    have hag : loadA Try.prog 63 (.pointer (some ⟨g.length, 0, none⟩)) (g ++ [Blk.cells x.cells false none]) = some (.agg x.cells.toArray) := by simp [stA_cells]
    rw [stA_cells] at sA hsA hag
    generalize g ++ [Blk.cells [.int .u8 (x.s : Nat), .int .i64 x.tried, .int .i64 x.badge, .int .i64 x.since, .int .i64 x.code, .bool x.played] false none] = gA at sA hsA hag ⊢
    have smA := sm.trans sA
    simp [f1, hag, -load_ptr]
    refine after_call (hff gA smA c rfl) ?_
    rintro r g2 ⟨rfl, s2⟩
    have sm2 := smA.trans s2
    have A2 := (A.same sA).same s2
    cases hfx : f n x with
    | true =>
      rw [hfx] at hps
      simp only [if_true] at hps
      obtain ⟨v3, g3, e3, A3, u3, n3⟩ := (A2.same (Same.new [.cells [.int .i64 (n : Nat)] false none])).append (P := Try.prog) (by_ := 8) (t := 35) (tx := 35) (e := 3) (x := .slice (some ⟨g2.length, 0, none⟩) 1 1) (m := 1) (ys := [.int .i64 (n : Nat)]) (by have := sm2.len; simp; omega) (by simp) (by simp) (by simp; rfl) (by simp [isSrc]) (by simp [srcA]) (by simp) rfl (by omega) (by omega)
      have s3 : Same h g3 := Acc.since (A2.same (Same.new _)) (sm2.trans (Same.new _)) u3
      simp [f1, f5, f13, f14, f15, hfx, e3, zeros, capO, w1, -load_ptr, -roundQ_normal, ↓rq]
      refine stop_intro ⟨l.length - (n + 1), by omega, n + 1, v3, rfl, by omega, by simp [f1], by simp, by simp [f13], by simp [f14], by simp, s3, ?_⟩
      rw [hps, List.length_append, List.map_append]
      exact A3
    | false =>
      rw [hfx] at hps
      simp only [Bool.false_eq_true, if_false, List.append_nil] at hps
      simp [f1, f5, f13, f14, f15, hfx, w1, -load_ptr, -roundQ_normal, ↓rq]
      refine stop_intro ⟨l.length - (n + 1), by omega, n + 1, a, rfl, by omega, by simp [f1], by simp [f5], by simp [f13], by simp [f14], by simp, sm2, by rw [hps]; exact A2⟩
  · have c' : ¬ (n : Int) < l.length := by omega
    have hn' : n = l.length := by omega
    subst hn'
    simp [f5, f13, f14, f15]
    exact ⟨A, sm⟩
theorem picks_over (l : List St) : ((picks (fun _ x => !endS x.s) l l.length).length = 0) ↔ overJ l = true := by
  unfold picks overJ
  rw [List.length_map, List.length_eq_zero_iff, List.filter_eq_nil_iff, List.all_eq_true]
  constructor
  · intro h x hx
    obtain ⟨i, hi, rfl⟩ := List.mem_iff_getElem.1 hx
    have := h i (by simpa using hi)
    rw [← getD_at l St.no hi] at this
    simpa using this
  · intro h i hi
    have hi' : i < l.length := by simpa using hi
    have := h l[i] (List.getElem_mem _)
    rw [← getD_at l St.no hi']
    show ¬ (!endS (l[i]).s) = true
    rw [this]; simp
theorem jover_ev {h : Hp} {k b : Nat} {jv lv : Value} {js : List Jb} {l : List St} (m : JM h k b jv lv js l) :
    EvA Try.prog 34 [.pointer (some ⟨b, 0, none⟩)] (fun r h' => r = .bool (overJ l) ∧ Same h h') h := by
  refine EvA.body Try.func34 rfl (by kernel_rfl) (by simp) ?_
  apply Run.ok
  simp
  refine after_call (pick_ev m _ (fun _ x => !endS x.s) ⟨81, _, rfl, fun i x g _ _ _ => jover1_ev i x g⟩) ?_
  rintro r h2 ⟨A, s2⟩
  have tl := A.row.len (P := Try.prog) (t := 35) (e := 3) (by simp)
  have hp := picks_over l
  generalize (picks (fun _ x => !endS x.s) l l.length).length = q at tl hp
  have e : ((q : Int) == 0) = overJ l := by
    rw [Bool.eq_iff_iff, ← hp]; simp
  simp [tl, e]
  exact s2
theorem jready1_ev (i : Int) (x : St) (h : Hp) : EvA Try.prog 85 [.int .i64 i, .agg x.cells.toArray] (fun r h' => r = .bool (decide (x.s = 3)) ∧ Same h h') h := by
  refine EvA.body Try.func85 rfl (by kernel_rfl) (by simp) ?_
  apply Run.ok
  have e : ((x.s : Int) == 3) = decide (x.s = 3) := by rw [Bool.eq_iff_iff]; simp; omega
  rw [stA_cells]
  simp [e]
  exact Same.new _
theorem jready_ev {h : Hp} {k b : Nat} {jv lv : Value} {js : List Jb} {l : List St} (m : JM h k b jv lv js l) :
    EvA Try.prog 38 [.pointer (some ⟨b, 0, none⟩)] (fun r h' => Acc h.length h' 1 r (picks (fun _ x => decide (x.s = 3)) l l.length).length ((picks (fun _ x => decide (x.s = 3)) l l.length).map intV) ∧ Same h h') h := by
  refine EvA.body Try.func38 rfl (by kernel_rfl) (by simp) ?_
  apply Run.ok
  simp
  refine after_call (pick_ev m _ (fun _ x => decide (x.s = 3)) ⟨85, _, rfl, fun i x g _ _ _ => jready1_ev i x g⟩) ?_
  rintro r h2 ⟨A, s2⟩
  simp
  exact ⟨A, s2⟩
end Go.Proofs.Ytklhioaokogpdaa
