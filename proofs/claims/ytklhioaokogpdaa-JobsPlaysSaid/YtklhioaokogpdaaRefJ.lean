/- The document's jobs (bastionref25): what the calls answer that only look; no condition. -/
import Derived.Test.YtklhioaokogpdaaPRead25
import Derived.Test.YtklhioaokogpdaaDraws
namespace Go.Proofs.Ytklhioaokogpdaa
open Go.Ab
/-- where the document's jobs lie -/
structure RJ (h : Hp) (k c : Nat) (pv rv : Value) (l : List St) : Prop where
  at_ : h[c]? = some (.cells [pv, rv] false none)
  kc : k ≤ c
  rw : Acc k h 6 rv l.length (l.flatMap St.cells)
  ne : ∀ j, inRow rv j → j ≠ c
def ownR (c : Nat) (rv : Value) (j : Nat) : Prop := j = c ∨ inRow rv j
section
variable {h h' : Hp} {k c : Nat} {pv rv : Value} {l : List St} {S : Nat → Prop} {ps : List Pj} {js : List Jb}
theorem RJ.t (m : RJ h k c pv rv l) : TRow h 6 rv l St.cells := ⟨m.rw.row, fun _ _ => rfl⟩
theorem RJ.upd (m : RJ h k c pv rv l) (u : Upd S h h') (hs : ∀ j, ownR c rv j → ¬ S j) : RJ h' k c pv rv l :=
  ⟨u.at m.at_ (hs c (.inl rfl)), m.kc, m.rw.upd u fun j hj => hs j (.inr hj), m.ne⟩
theorem RJ.same (m : RJ h k c pv rv l) (u : Same h h') : RJ h' k c pv rv l := m.upd u fun _ _ h => h
theorem RJ.lo (m : RJ h k c pv rv l) {j : Nat} (hj : ownR c rv j) : k ≤ j ∧ j < h.length := by
  rcases hj with rfl | hj
  · exact ⟨m.kc, hp_lt m.at_⟩
  · exact m.rw.above j hj
theorem RJ.l0 (m : RJ h k c pv rv l) : loadA Try.prog 119 (.pointer (some ⟨c, 1, none⟩)) h = some rv := by rw [load_at m.at_ (by simp)]; rfl
theorem RJ.p0 (m : RJ h k c pv rv l) : loadA Try.prog 48 (.pointer (some ⟨c, 0, none⟩)) h = some pv := by rw [load_at m.at_ (by simp)]; rfl
theorem RJ.tl (m : RJ h k c pv rv l) : lenA Try.prog 119 rv h = some (.int .i64 (l.length : Nat)) := m.t.len (e := 124) (by simp)
theorem RS_ia (m : TRow h 6 rv l St.cells) {i : Nat} (hi : i < l.length) : indexAddrA Try.prog 119 rv (.int .i64 (i : Int)) = some (.pointer (some ⟨rbl rv, rof rv + i * 6, none⟩)) :=
  m.ia (P := Try.prog) (t := 119) (e := 124) (by simp) (by simp) hi .i64
theorem RS_ag (m : TRow h 6 rv l St.cells) {i : Nat} (hi : i < l.length) : loadA Try.prog 124 (.pointer (some ⟨rbl rv, rof rv + i * 6, none⟩)) h = some (.agg (l.getD i St.no).cells.toArray) := by
  rw [m.agg (P := Try.prog) (e := 124) (by simp) (by simp) hi, getD_at l St.no hi]
/-- a plan's job, by its place -/
theorem PL_ia (p : PlanR h pv ps) {i : Nat} (hi : i < ps.length) : indexAddrA Try.prog 48 pv (.int .i64 (i : Int)) = some (.pointer (some ⟨rbl pv, rof pv + i * 9, none⟩)) :=
  p.row.ia (P := Try.prog) (t := 48) (e := 67) (by simp) (by simp) hi .i64
theorem PL_n (p : PlanR h pv ps) {i : Nat} (hi : i < ps.length) : loadA Try.prog 35 (.pointer (some ⟨rbl pv, rof pv + i * 9 + 1, none⟩)) h = some ps[i].nv := by
  rw [p.row.cell (P := Try.prog) (f := 35) (j := 1) (by simp) hi (by omega)]; rfl
theorem PL_6 (p : PlanR h pv ps) {i : Nat} (hi : i < ps.length) : loadA Try.prog 3 (.pointer (some ⟨rbl pv, rof pv + i * 9 + 6, none⟩)) h = some (.int .i64 ps[i].tries) := by
  rw [p.row.cell (P := Try.prog) (f := 3) (j := 6) (by simp) hi (by omega)]; rfl
theorem PL_7 (p : PlanR h pv ps) {i : Nat} (hi : i < ps.length) : loadA Try.prog 3 (.pointer (some ⟨rbl pv, rof pv + i * 9 + 7, none⟩)) h = some (.int .i64 ps[i].limit) := by
  rw [p.row.cell (P := Try.prog) (f := 3) (j := 7) (by simp) hi (by omega)]; rfl
theorem PL_8 (p : PlanR h pv ps) {i : Nat} (hi : i < ps.length) : loadA Try.prog 4 (.pointer (some ⟨rbl pv, rof pv + i * 9 + 8, none⟩)) h = some (.bool ps[i].manual) := by
  rw [p.row.cell (P := Try.prog) (f := 4) (j := 8) (by simp) hi (by omega)]; rfl
theorem rended_ev (s : Nat) (h : Hp) : EvA Try.prog 133 [.int .u8 (s : Nat)] (fun r h' => h' = h ∧ r = .bool (endS s)) h := by
  refine EvA.body Try.func133 rfl (by kernel_rfl) (by simp) ?_
  apply Run.ok
  by_cases c1 : 5 ≤ s
  · by_cases c2 : s ≤ 11
    · have c1' : (5 : Int) ≤ s := by omega
      have c2' : (s : Int) ≤ 11 := by omega
      simp [c1', c2', endS, c1, c2]
    · have c1' : (5 : Int) ≤ s := by omega
      have c2' : ¬ (s : Int) ≤ 11 := by omega
      simp [c1', c2', endS, c1, c2]
  · have c1' : ¬ (5 : Int) ≤ s := by omega
    simp [c1', endS, c1]
theorem passA_ps (cv : Conv ps js) {i : Nat} (hi : i < ps.length) : passA (js.getD i Jb.no) l = ps[i].needs.all fun n => decide (stA l n.toNat = 5) := by
  unfold passA; rw [(cv.2 i hi).1, List.all_map]; rfl
theorem brokA_ps (cv : Conv ps js) {i : Nat} (hi : i < ps.length) : brokA (js.getD i Jb.no) l = ps[i].needs.any fun n => decide (stA l n.toNat ≠ 5) && endS (stA l n.toNat) := by
  unfold brokA; rw [(cv.2 i hi).1, List.any_map]; rfl
set_option maxRecDepth 4000 in
theorem rpassed_ev (m : RJ h k c pv rv l) (p : PlanR h pv ps) (hm : mayP ps = true) (cv : Conv ps js) (hl : l.length = ps.length) (i : Nat) (hi : i < ps.length) :
    EvA Try.prog 130 [.pointer (some ⟨c, 0, none⟩), .int .i64 (i : Nat)] (fun r h' => h' = h ∧ r = .bool (passA (js.getD i Jb.no) l)) h := by
  rw [passA_ps cv hi]
  refine EvA.body Try.func130 rfl (by kernel_rfl) (by simp) ?_
  apply Run.ok
  have l0 := m.l0
  have p0 := m.p0
  have ia := PL_ia p hi
  have pn := PL_n p hi
  have hn := p.nr _ (List.getElem_mem hi)
  have hgd := (mayP_spec hm).2 i hi
  generalize ps[i] = y at pn hn hgd
  obtain ⟨_, _, _, _, hng, hnl⟩ := hgd
  have tn := hn.len (P := Try.prog) (t := 35) (e := 3) (by simp)
  simp
  refine WpA.loop (fun z fr g => ∃ (q : Nat), z = y.needs.length - q ∧ q ≤ y.needs.length ∧ fr 0 = .pointer (some ⟨c, 0, none⟩) ∧ fr 1 = .int .i64 (i : Nat) ∧ fr 5 = .int .i64 (q : Nat) ∧ g = h ∧ ∀ n ∈ y.needs.take q, stA l n.toNat = 5)
    (k := y.needs.length) ⟨0, by simp, by omega, by simp, by simp, by simp, rfl, by simp⟩ ?_
  rintro z fr g ⟨q, rfl, hq, f0, f1, f5, rfl, hp⟩
  apply Run.ok
  by_cases d : q < y.needs.length
  · have d' : (q : Int) < y.needs.length := by omega
    have w1 : IntKind.i64.wrap ((q : Int) + 1) = (q : Int) + 1 := wrap_i64 (by omega) (by omega)
    have iaq := hn.ia1 (P := Try.prog) (t := 35) (e := 3) (by simp) (by simp) d .i64
    have ldq := hn.ld1 (P := Try.prog) (f := 3) (by simp) d
    rw [List.getElem?_map, List.getElem?_eq_getElem d] at ldq
    simp only [Option.map_some, intV] at ldq
    have htk : y.needs.take (q + 1) = y.needs.take q ++ [y.needs[q]] := by rw [List.take_add_one, List.getElem?_eq_getElem d]; rfl
    have hmem := List.getElem_mem d
    have hr := hng _ hmem
    generalize y.needs[q] = x at ldq htk hmem hr
    obtain ⟨n, rfl⟩ : ∃ n : Nat, x = (n : Int) := ⟨x.toNat, by omega⟩
    have hnl2 : n < l.length := by omega
    have ian := RS_ia m.t hnl2
    have cn := m.t.cell0 (P := Try.prog) (f := 5) (by simp) hnl2 (by omega)
    rw [getD_at l St.no hnl2] at cn
    have cn' : loadA Try.prog 5 (.pointer (some ⟨rbl rv, rof rv + n * 6, none⟩)) g = some (.int .u8 (stA l n : Nat)) := cn
    clear cn
    simp [f0, f1, f5, p0, ia, pn, tn, d', -load_ptr]
    refine WpA.drawnA [0, 1, 2, 3, 4, 5, 6, 7, 8, 9, 10, 11, 12, 13, 14, 15, 16, 17, 18, 19] [] (by kernel_rfl) (by decide +kernel) (by decide +kernel) ?_
    by_cases e : stA l n = 5
    · have e' : ((stA l n : Int) != 5) = false := by simp; omega
      simp [f0, f1, f5, l0, p0, ia, pn, iaq, ldq, ian, cn', e', w1, -load_ptr, -roundQ_normal, ↓rq]
      refine stop_intro ⟨y.needs.length - (q + 1), by omega, q + 1, rfl, by omega, by simp [f0], by simp [f1], by simp, rfl, fun n' hn' => ?_⟩
      rw [htk] at hn'
      rcases List.mem_append.1 hn' with h1 | h1
      · exact hp n' h1
      · simp only [List.mem_singleton] at h1; subst h1; simpa using e
    · have e' : ((stA l n : Int) != 5) = true := by simp; omega
      have hall : (y.needs.all fun n => decide (stA l n.toNat = 5)) = false := List.all_eq_false.2 ⟨_, hmem, by simpa using e⟩
      simp [f0, f1, f5, l0, p0, ia, pn, iaq, ldq, ian, cn', e', hall, -load_ptr]
  · have d' : ¬ (q : Int) < y.needs.length := by omega
    rw [List.take_of_length_le (by omega)] at hp
    have hall : (y.needs.all fun n => decide (stA l n.toNat = 5)) = true := List.all_eq_true.2 fun n hn => by simpa using hp n hn
    simp [f0, f1, f5, p0, ia, pn, tn, d', hall, -load_ptr]
set_option maxRecDepth 4000 in
theorem rbroken_ev (m : RJ h k c pv rv l) (p : PlanR h pv ps) (hm : mayP ps = true) (cv : Conv ps js) (hl : l.length = ps.length) (i : Nat) (hi : i < ps.length) :
    EvA Try.prog 139 [.pointer (some ⟨c, 0, none⟩), .int .i64 (i : Nat)] (fun r h' => h' = h ∧ r = .bool (brokA (js.getD i Jb.no) l)) h := by
  rw [brokA_ps cv hi]
  refine EvA.body Try.func139 rfl (by kernel_rfl) (by simp) ?_
  apply Run.ok
  have l0 := m.l0
  have p0 := m.p0
  have ia := PL_ia p hi
  have pn := PL_n p hi
  have hn := p.nr _ (List.getElem_mem hi)
  have hgd := (mayP_spec hm).2 i hi
  generalize ps[i] = y at pn hn hgd
  obtain ⟨_, _, _, _, hng, hnl⟩ := hgd
  have tn := hn.len (P := Try.prog) (t := 35) (e := 3) (by simp)
  simp
  refine WpA.loop (fun z fr g => ∃ (q : Nat), z = y.needs.length - q ∧ q ≤ y.needs.length ∧ fr 0 = .pointer (some ⟨c, 0, none⟩) ∧ fr 1 = .int .i64 (i : Nat) ∧ fr 5 = .int .i64 (q : Nat) ∧ g = h ∧ ∀ n ∈ y.needs.take q, (decide (stA l n.toNat ≠ 5) && endS (stA l n.toNat)) = false)
    (k := y.needs.length) ⟨0, by simp, by omega, by simp, by simp, by simp, rfl, by simp⟩ ?_
  rintro z fr g ⟨q, rfl, hq, f0, f1, f5, rfl, hp⟩
  apply Run.ok
  by_cases d : q < y.needs.length
  · have d' : (q : Int) < y.needs.length := by omega
    have w1 : IntKind.i64.wrap ((q : Int) + 1) = (q : Int) + 1 := wrap_i64 (by omega) (by omega)
    have iaq := hn.ia1 (P := Try.prog) (t := 35) (e := 3) (by simp) (by simp) d .i64
    have ldq := hn.ld1 (P := Try.prog) (f := 3) (by simp) d
    rw [List.getElem?_map, List.getElem?_eq_getElem d] at ldq
    simp only [Option.map_some, intV] at ldq
    have htk : y.needs.take (q + 1) = y.needs.take q ++ [y.needs[q]] := by rw [List.take_add_one, List.getElem?_eq_getElem d]; rfl
    have hmem := List.getElem_mem d
    have hr := hng _ hmem
    generalize y.needs[q] = x at ldq htk hmem hr
    obtain ⟨n, rfl⟩ : ∃ n : Nat, x = (n : Int) := ⟨x.toNat, by omega⟩
    have hnl2 : n < l.length := by omega
    have ian := RS_ia m.t hnl2
    have cn := m.t.cell0 (P := Try.prog) (f := 5) (by simp) hnl2 (by omega)
    rw [getD_at l St.no hnl2] at cn
    have cn' : loadA Try.prog 5 (.pointer (some ⟨rbl rv, rof rv + n * 6, none⟩)) g = some (.int .u8 (stA l n : Nat)) := cn
    clear cn
    have hin : ∀ b, (decide (stA l n ≠ 5) && endS (stA l n)) = b → ∀ m ∈ y.needs.take (q + 1), b = false → (decide (stA l m.toNat ≠ 5) && endS (stA l m.toNat)) = false := fun b hb m hm hf => by
      rw [htk] at hm
      rcases List.mem_append.1 hm with h1 | h1
      · exact hp m h1
      · simp only [List.mem_singleton] at h1; subst h1; rw [Int.toNat_natCast, hb, hf]
    generalize hsn : stA l n = sn at cn' hin
    simp [f0, f1, f5, p0, ia, pn, tn, d', -load_ptr]
    refine WpA.drawnA [0, 1, 2, 3, 4, 5, 6, 7, 8, 9, 10, 11, 12, 13, 14, 15, 16, 17, 18, 19] [] (by kernel_rfl) (by decide +kernel) (by decide +kernel) ?_
    by_cases e : sn = 5
    · have e' : ((sn : Int) != 5) = false := by simp; omega
      simp [f0, f1, f5, l0, p0, ia, pn, iaq, ldq, ian, cn', e', w1, -load_ptr, -roundQ_normal, ↓rq]
      exact stop_intro ⟨y.needs.length - (q + 1), by omega, q + 1, rfl, by omega, by simp [f0], by simp [f1], by simp, rfl, fun m hm => hin _ rfl m hm (by simp [e])⟩
    · have e' : ((sn : Int) != 5) = true := by simp; omega
      simp [f0, f1, f5, l0, p0, ia, pn, iaq, ldq, ian, cn', e', -load_ptr]
      refine after_call (rended_ev sn _) ?_
      rintro r g2 ⟨rfl, rfl⟩
      rcases Bool.eq_false_or_eq_true (endS sn) with he | he
      · have hall : (y.needs.any fun n => decide (stA l n.toNat ≠ 5) && endS (stA l n.toNat)) = true := List.any_eq_true.2 ⟨_, hmem, by rw [Int.toNat_natCast, hsn, he]; simp [e]⟩
        simp only [ne_eq, decide_not] at hall
        simp [he, hall]
      · simp [he, f0, f1, f5, w1, -load_ptr, -roundQ_normal, ↓rq]
        exact stop_intro ⟨y.needs.length - (q + 1), by omega, q + 1, rfl, by omega, by simp [f0], by simp [f1], by simp, rfl, fun m hm => hin _ rfl m hm (by simp [he])⟩
  · have d' : ¬ (q : Int) < y.needs.length := by omega
    rw [List.take_of_length_le (by omega)] at hp
    have hall : (y.needs.any fun n => decide (stA l n.toNat ≠ 5) && endS (stA l n.toNat)) = false := List.any_eq_false.2 fun n hn => by rw [hp n hn]; simp
    simp only [ne_eq, decide_not] at hall
    simp [f0, f1, f5, p0, ia, pn, tn, d', hall, -load_ptr]
theorem rsettled_ev (m : RJ h k c pv rv l) (p : PlanR h pv ps) (hm : mayP ps = true) (cv : Conv ps js) (hl : l.length = ps.length) (i : Nat) (hi : i < ps.length) (pl : Bool) :
    EvA Try.prog 131 [.pointer (some ⟨c, 0, none⟩), .int .i64 (i : Nat), .bool pl] (fun r h' => h' = h ∧ r = .int .u8 (nextA (js.getD i Jb.no) l pl : Nat)) h := by
  refine EvA.body Try.func131 rfl (by kernel_rfl) (by simp) ?_
  apply Run.ok
  have p0 := m.p0
  have ia := PL_ia p hi
  have p8 := PL_8 p hi
  have hmn := (cv.2 i hi).2.2.2
  simp
  refine after_call (rbroken_ev m p hm cv hl i hi) ?_
  rintro r h1 ⟨rfl, rfl⟩
  have hps := rpassed_ev m p hm cv hl i hi
  rw [← hmn] at p8
  generalize js.getD i Jb.no = y at p8 hps ⊢
  unfold nextA
  cases hb : brokA y l
  · simp
    refine after_call hps ?_
    rintro r h2 ⟨rfl, rfl⟩
    cases hp : passA y l
    · simp
    · rcases Bool.eq_false_or_eq_true y.manual with hm | hm
      · cases pl <;> simp [p0, ia, p8, hm, -load_ptr]
      · simp [p0, ia, p8, hm, -load_ptr]
  · simp
end
end Go.Proofs.Ytklhioaokogpdaa
