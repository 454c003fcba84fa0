/- How jobs lie in memory, and what the calls answer that only look; no condition. -/
import Derived.Test.YtklhioaokogpdaaPJobs
import Derived.Test.YtklhioaokogpdaaAb32
namespace Go.Proofs.Ytklhioaokogpdaa
open Go.Ab
def St.cells (x : St) : List Value := [.int .u8 (x.s : Nat), .int .i64 x.tried, .int .i64 x.badge, .int .i64 x.since, .int .i64 x.code, .bool x.played]
def Jb.cells (y : Jb) : List Value := [y.nv, .int .i64 y.tries, .int .i64 y.limit, .bool y.manual]
def needV (n : Nat) : Value := .int .i64 (n : Nat)
theorem stCells_len (l : List St) : (l.flatMap St.cells).length = l.length * 6 := by
  induction l with
  | nil => rfl
  | cons x l ih => rw [List.flatMap_cons, List.length_append, ih, List.length_cons]; show 6 + _ = _; omega
/-- where jobs lie -/
structure JM (h : Hp) (k b : Nat) (jv lv : Value) (js : List Jb) (l : List St) : Prop where
  at_ : h[b]? = some (.cells [jv, lv] false none)
  kb : k ≤ b
  jr : Acc k h 4 jv js.length (js.flatMap Jb.cells)
  nr : ∀ y ∈ js, Acc k h 1 y.nv y.needs.length (y.needs.map needV)
  lw : Acc k h 6 lv l.length (l.flatMap St.cells)
  dj : ∀ j, inRow lv j → j ≠ b ∧ ¬ inRow jv j ∧ ∀ y ∈ js, ¬ inRow y.nv j
  djb : ∀ j, inRow jv j → j ≠ b
  djn : ∀ y ∈ js, ∀ j, inRow y.nv j → j ≠ b ∧ ¬ inRow jv j
  len : l.length = js.length
  wf : WfJ js
  short : js.length ≤ 24
  few : ∀ y ∈ js, y.needs.length ≤ 24
/-- the blocks of jobs -/
def ownJ (b : Nat) (jv lv : Value) (js : List Jb) (j : Nat) : Prop := j = b ∨ inRow jv j ∨ inRow lv j ∨ ∃ y ∈ js, inRow y.nv j
section
variable {h h' : Hp} {k b : Nat} {jv lv : Value} {js : List Jb} {l : List St} {S : Nat → Prop}
theorem JM.t (m : JM h k b jv lv js l) : TRow h 6 lv l St.cells := ⟨m.lw.row, fun _ _ => rfl⟩
theorem JM.jt (m : JM h k b jv lv js l) : TRow h 4 jv js Jb.cells := ⟨m.jr.row, fun _ _ => rfl⟩
theorem JM.upd (m : JM h k b jv lv js l) (u : Upd S h h') (hs : ∀ j, ownJ b jv lv js j → ¬ S j) : JM h' k b jv lv js l :=
  ⟨u.at m.at_ (hs b (.inl rfl)), m.kb, m.jr.upd u fun j hj => hs j (.inr (.inl hj)), fun y hy => (m.nr y hy).upd u fun j hj => hs j (.inr (.inr (.inr ⟨y, hy, hj⟩))), m.lw.upd u fun j hj => hs j (.inr (.inr (.inl hj))), m.dj, m.djb, m.djn, m.len, m.wf, m.short, m.few⟩
theorem JM.same (m : JM h k b jv lv js l) (u : Same h h') : JM h' k b jv lv js l := m.upd u fun _ _ h => h
theorem JM.lo (m : JM h k b jv lv js l) {j : Nat} (hj : ownJ b jv lv js j) : k ≤ j ∧ j < h.length := by
  rcases hj with rfl | hj | hj | ⟨y, hy, hj⟩
  · exact ⟨m.kb, hp_lt m.at_⟩
  · exact m.jr.above j hj
  · exact m.lw.above j hj
  · exact (m.nr y hy).above j hj
/-- how the jobs stand has been written -/
theorem JM.put {m' : List St} (m : JM h k b jv lv js l) (hl : m'.length = l.length) (w : Acc k h' 6 lv m'.length (m'.flatMap St.cells)) (u : Upd (inRow lv) h h') : JM h' k b jv lv js m' :=
  ⟨u.at m.at_ fun hin => (m.dj b hin).1 rfl, m.kb, m.jr.upd u fun j hj hin => (m.dj j hin).2.1 hj, fun y hy => (m.nr y hy).upd u fun j hj hin => (m.dj j hin).2.2 y hy hj, w, m.dj, m.djb, m.djn, by rw [hl, m.len], m.wf, m.short, m.few⟩
theorem JM.l0 (m : JM h k b jv lv js l) : loadA Try.prog 56 (.pointer (some ⟨b, 1, none⟩)) h = some lv := by rw [load_at m.at_ (by simp)]; rfl
theorem JM.j0 (m : JM h k b jv lv js l) : loadA Try.prog 111 (.pointer (some ⟨b, 0, none⟩)) h = some jv := by rw [load_at m.at_ (by simp)]; rfl
theorem JM.tl (m : JM h k b jv lv js l) : lenA Try.prog 56 lv h = some (.int .i64 (l.length : Nat)) := m.t.len (e := 63) (by simp)
theorem JM.l24 (m : JM h k b jv lv js l) : l.length ≤ 24 := by have := m.len; have := m.short; omega
theorem JM.ia (m : JM h k b jv lv js l) {i : Nat} (hi : i < l.length) (q : IntKind) : indexAddrA Try.prog 56 lv (.int q (i : Int)) = some (.pointer (some ⟨rbl lv, rof lv + i * 6, none⟩)) :=
  m.t.ia (P := Try.prog) (t := 56) (e := 63) (by simp) (by simp) hi q
theorem JM.ja (m : JM h k b jv lv js l) {i : Nat} (hi : i < l.length) (q : IntKind) : indexAddrA Try.prog 111 jv (.int q (i : Int)) = some (.pointer (some ⟨rbl jv, rof jv + i * 4, none⟩)) :=
  m.jt.ia (P := Try.prog) (t := 111) (e := 128) (by simp) (by simp) (by have := m.len; omega) q
theorem JM.ag (m : JM h k b jv lv js l) {i : Nat} (hi : i < l.length) : loadA Try.prog 63 (.pointer (some ⟨rbl lv, rof lv + i * 6, none⟩)) h = some (.agg (l.getD i St.no).cells.toArray) := by
  rw [m.t.agg (P := Try.prog) (e := 63) (by simp) (by simp) hi, List.getD_eq_getElem?_getD, List.getElem?_eq_getElem hi]; rfl
theorem getD_at {α : Type} (l : List α) (d : α) {i : Nat} (hi : i < l.length) : l[i] = l.getD i d := by rw [List.getD_eq_getElem?_getD, List.getElem?_eq_getElem hi]; rfl
theorem JM.c0 (m : JM h k b jv lv js l) {i : Nat} (hi : i < l.length) : loadA Try.prog 5 (.pointer (some ⟨rbl lv, rof lv + i * 6, none⟩)) h = some (.int .u8 (stA l i : Nat)) := by
  rw [m.t.cell0 (P := Try.prog) (f := 5) (by simp) hi (by omega), getD_at l St.no hi]; rfl
theorem JM.c1 (m : JM h k b jv lv js l) {i : Nat} (hi : i < l.length) : loadA Try.prog 3 (.pointer (some ⟨rbl lv, rof lv + i * 6 + 1, none⟩)) h = some (.int .i64 (l.getD i St.no).tried) := by
  rw [m.t.cell (P := Try.prog) (f := 3) (j := 1) (by simp) hi (by omega), getD_at l St.no hi]; rfl
theorem JM.c2 (m : JM h k b jv lv js l) {i : Nat} (hi : i < l.length) : loadA Try.prog 3 (.pointer (some ⟨rbl lv, rof lv + i * 6 + 2, none⟩)) h = some (.int .i64 (l.getD i St.no).badge) := by
  rw [m.t.cell (P := Try.prog) (f := 3) (j := 2) (by simp) hi (by omega), getD_at l St.no hi]; rfl
theorem JM.c5 (m : JM h k b jv lv js l) {i : Nat} (hi : i < l.length) : loadA Try.prog 4 (.pointer (some ⟨rbl lv, rof lv + i * 6 + 5, none⟩)) h = some (.bool (l.getD i St.no).played) := by
  rw [m.t.cell (P := Try.prog) (f := 4) (j := 5) (by simp) hi (by omega), getD_at l St.no hi]; rfl
theorem JM.jmem (m : JM h k b jv lv js l) {i : Nat} (hi : i < l.length) : js.getD i Jb.no ∈ js := by
  rw [← getD_at js Jb.no (by have := m.len; omega)]; exact List.getElem_mem _
theorem JM.j0' (m : JM h k b jv lv js l) {i : Nat} (hi : i < l.length) : loadA Try.prog 35 (.pointer (some ⟨rbl jv, rof jv + i * 4, none⟩)) h = some (js.getD i Jb.no).nv := by
  have hi' : i < js.length := by have := m.len; omega
  rw [m.jt.cell0 (P := Try.prog) (f := 35) (by simp) hi' (by omega), getD_at js Jb.no hi']; rfl
theorem JM.j1 (m : JM h k b jv lv js l) {i : Nat} (hi : i < l.length) : loadA Try.prog 3 (.pointer (some ⟨rbl jv, rof jv + i * 4 + 1, none⟩)) h = some (.int .i64 (js.getD i Jb.no).tries) := by
  have hi' : i < js.length := by have := m.len; omega
  rw [m.jt.cell (P := Try.prog) (f := 3) (j := 1) (by simp) hi' (by omega), getD_at js Jb.no hi']; rfl
theorem JM.j2 (m : JM h k b jv lv js l) {i : Nat} (hi : i < l.length) : loadA Try.prog 3 (.pointer (some ⟨rbl jv, rof jv + i * 4 + 2, none⟩)) h = some (.int .i64 (js.getD i Jb.no).limit) := by
  have hi' : i < js.length := by have := m.len; omega
  rw [m.jt.cell (P := Try.prog) (f := 3) (j := 2) (by simp) hi' (by omega), getD_at js Jb.no hi']; rfl
theorem JM.j3 (m : JM h k b jv lv js l) {i : Nat} (hi : i < l.length) : loadA Try.prog 4 (.pointer (some ⟨rbl jv, rof jv + i * 4 + 3, none⟩)) h = some (.bool (js.getD i Jb.no).manual) := by
  have hi' : i < js.length := by have := m.len; omega
  rw [m.jt.cell (P := Try.prog) (f := 4) (j := 3) (by simp) hi' (by omega), getD_at js Jb.no hi']; rfl
theorem flatMap_set1 {α : Type} {cells : α → List Value} {z : Nat} : ∀ (l : List α) (k : Nat) (y : α), (∀ x ∈ l, (cells x).length = z) → k < l.length → (l.flatMap cells).take (k * z) ++ cells y ++ (l.flatMap cells).drop (k * z + z) = (l.set k y).flatMap cells := by
  intro l
  induction l with
  | nil => intro k y _ hk; simp at hk
  | cons x l ih =>
    intro k y hz hk
    have hx := hz x (by simp)
    cases k with
    | zero =>
      simp only [Nat.zero_mul, List.take_zero, List.nil_append, Nat.zero_add, List.flatMap_cons, List.set_cons_zero]
      rw [← hx, List.drop_left]
    | succ k =>
      have := ih k y (fun y hy => hz y (by simp [hy])) (by simpa using hk)
      simp only [List.flatMap_cons, List.set_cons_succ]
      rw [show (k + 1) * z = (cells x).length + k * z by rw [hx, Nat.add_mul]; omega, List.take_length_add_append, Nat.add_assoc, List.drop_length_add_append, List.append_assoc, List.append_assoc, ← this, List.append_assoc]
theorem flatMap_setc {α : Type} {cells : α → List Value} {z : Nat} : ∀ (l : List α) (k j : Nat) (y : α) (v : Value), (∀ x ∈ l, (cells x).length = z) → (hk : k < l.length) → j < z → cells y = (cells l[k]).set j v → (l.flatMap cells).set (k * z + j) v = (l.set k y).flatMap cells := by
  intro l
  induction l with
  | nil => intro k j y v _ hk; simp at hk
  | cons x l ih =>
    intro k j y v hz hk hj hy
    have hx := hz x (by simp)
    cases k with
    | zero =>
      simp only [List.getElem_cons_zero] at hy
      simp only [Nat.zero_mul, Nat.zero_add, List.flatMap_cons, List.set_cons_zero]
      rw [List.set_append_left _ _ (by omega), hy]
    | succ k =>
      simp only [List.flatMap_cons, List.set_cons_succ]
      rw [List.set_append_right _ _ (by rw [hx, Nat.add_mul]; omega), hx, show (k + 1) * z + j - z = k * z + j by rw [Nat.add_mul]; omega,
        ih k j y v (fun y hy => hz y (by simp [hy])) (by simpa using hk) hj (by simpa using hy)]
theorem stCells_one (x : St) : x.cells.all oneA = true := rfl
/-- one status is written whole -/
theorem JM.sta (m : JM h k b jv lv js l) {i : Nat} (hi : i < l.length) (y : St) :
    ∃ h', storeA Try.prog 63 (.pointer (some ⟨rbl lv, rof lv + i * 6, none⟩)) (.agg y.cells.toArray) h = some h' ∧ JM h' k b jv lv js (l.set i y) ∧ Upd (inRow lv) h h' := by
  obtain ⟨h', e1, e2, e3, e4⟩ := m.lw.storea (P := Try.prog) (e := 63) (ys := y.cells) (by simp) rfl (stCells_one y) hi
  rw [flatMap_set1 (cells := St.cells) (z := 6) l i y (fun _ _ => rfl) hi] at e2
  have u : Upd (inRow lv) h h' := e3.mono fun j _ hj => by rw [hj]; exact m.t.1.inRow hi
  exact ⟨h', e1, m.put (by simp) (by simpa using e2) u, u⟩
/-- one status's state is written -/
theorem JM.st0 (m : JM h k b jv lv js l) {i : Nat} (hi : i < l.length) (s : Nat) :
    ∃ h', storeA Try.prog 5 (.pointer (some ⟨rbl lv, rof lv + i * 6, none⟩)) (.int .u8 (s : Nat)) h = some h' ∧ JM h' k b jv lv js (setS l i s) ∧ Upd (inRow lv) h h' := by
  obtain ⟨h', e1, e2, e3, e4⟩ := m.lw.storec (P := Try.prog) (e := 5) (x := .int .u8 (s : Nat)) (j := 0) (by simp) rfl hi (by omega)
  rw [flatMap_setc (cells := St.cells) (z := 6) l i 0 ((l.getD i St.no).to s) _ (fun _ _ => rfl) hi (by omega) (by rw [getD_at l St.no hi]; rfl)] at e2
  have u : Upd (inRow lv) h h' := e3.mono fun j _ hj => by rw [hj]; exact m.t.1.inRow hi
  exact ⟨h', e1, m.put (by simp [setS]) (by simpa [setS] using e2) u, u⟩
theorem JM.st5 (m : JM h k b jv lv js l) {i : Nat} (hi : i < l.length) (p : Bool) :
    ∃ h', storeA Try.prog 4 (.pointer (some ⟨rbl lv, rof lv + i * 6 + 5, none⟩)) (.bool p) h = some h' ∧ JM h' k b jv lv js (l.set i { l.getD i St.no with played := p }) ∧ Upd (inRow lv) h h' := by
  obtain ⟨h', e1, e2, e3, e4⟩ := m.lw.storec (P := Try.prog) (e := 4) (x := .bool p) (j := 5) (by simp) rfl hi (by omega)
  rw [flatMap_setc (cells := St.cells) (z := 6) l i 5 { l.getD i St.no with played := p } _ (fun _ _ => rfl) hi (by omega) (by rw [getD_at l St.no hi]; rfl)] at e2
  have u : Upd (inRow lv) h h' := e3.mono fun j _ hj => by rw [hj]; exact m.t.1.inRow hi
  exact ⟨h', e1, m.put (by simp) (by simpa using e2) u, u⟩
end
theorem ended_ev (s : Nat) (h : Hp) : EvA Try.prog 33 [.int .u8 (s : Nat)] (fun r h' => h' = h ∧ r = .bool (endS s)) h := by
  refine EvA.body Try.func33 rfl (by kernel_rfl) (by simp) ?_
  apply Run.ok
  by_cases c1 : 5 ≤ s
  · by_cases c2 : s ≤ 11
    · have c1' : (5 : Int) ≤ s := by omega
      have c2' : (s : Int) ≤ 11 := by omega
      simp [c1', c2', endS, c1, c2]
    · have c1' : (5 : Int) ≤ s := by omega
      have c2' : ¬ (s : Int) ≤ 11 := by omega
      simp [c1', c2', endS, c1, c2]
  · have c1' : ¬ (5 : Int) ≤ s := by omega
    simp [c1', endS, c1]
theorem thereJ_ev {h : Hp} {k b : Nat} {jv lv : Value} {js : List Jb} {l : List St} (i : Int) (m : JM h k b jv lv js l) :
    EvA Try.prog 82 [.pointer (some ⟨b, 0, none⟩), .int .i64 i] (fun r h' => h' = h ∧ r = .int .i64 (if i < 0 ∨ (l.length : Int) ≤ i then 1 else 0)) h := by
  refine EvA.body Try.func82 rfl (by kernel_rfl) (by simp) ?_
  apply Run.ok
  have l0 := m.l0
  have tl := m.tl
  by_cases c1 : i < 0
  · simp [c1]
  · by_cases c2 : (l.length : Int) ≤ i
    · simp [c1, l0, tl, c2, -load_ptr]
    · simp [c1, l0, tl, c2, -load_ptr]
theorem countJ_ev (n q : Int) (h : Hp) : EvA Try.prog 84 [.int .i64 n, .int .i64 q] (fun r h' => h' = h ∧ r = .bool (decide (q ≤ n) && decide (n ≤ 2147483647))) h := by
  refine EvA.body Try.func84 rfl (by kernel_rfl) (by simp) ?_
  apply Run.ok
  by_cases c1 : q ≤ n
  · by_cases c2 : n ≤ 2147483647 <;> simp [c1, c2]
  · simp [c1]
theorem needed_ev {h : Hp} {k b : Nat} {jv lv : Value} {js : List Jb} {l : List St} (i : Nat) (hi : i < l.length) (m : JM h k b jv lv js l) :
    EvA Try.prog 127 [.pointer (some ⟨b, 0, none⟩), .int .i64 (i : Nat)] (fun r h' => h' = h ∧ r = .tuple #[.bool (passA (js.getD i Jb.no) l), .bool (brokA (js.getD i Jb.no) l)]) h := by
  refine EvA.body Try.func127 rfl (by kernel_rfl) (by simp) ?_
  apply Run.ok
  have l0 := m.l0
  have j0 := m.j0
  have ja := m.ja hi .i64
  have j0' := m.j0' hi
  have hn := (m.nr _ (m.jmem hi)).row
  have hwf := m.wf i
  have hfw := m.few _ (m.jmem hi)
  generalize js.getD i Jb.no = y at j0' hn hwf hfw
  have tn := hn.len (P := Try.prog) (t := 35) (e := 3) (by simp)
  simp [j0, ja, j0', tn, -load_ptr]
  refine WpA.loop (fun z fr g => ∃ (n : Nat), z = y.needs.length - n ∧ n ≤ y.needs.length ∧ fr 0 = .pointer (some ⟨b, 0, none⟩) ∧ fr 16 = y.nv ∧ fr 17 = .int .i64 (y.needs.length : Nat) ∧ fr 18 = .int .i64 (n : Nat) ∧ g = h ∧
      fr 4 = .bool ((y.needs.take n).all fun n => decide (stA l n = 5)) ∧ fr 5 = .bool ((y.needs.take n).any fun n => decide (stA l n ≠ 5) && endS (stA l n)))
    (k := y.needs.length) ⟨0, by simp, by omega, by simp, by simp, by simp, by simp, rfl, by simp, by simp⟩ ?_
  rintro z fr g ⟨n, rfl, hn2, f0, f16, f17, f18, rfl, f4, f5⟩
  apply Run.ok
  by_cases c : n < y.needs.length
  · have c' : (n : Int) < y.needs.length := by omega
    have w1 : IntKind.i64.wrap ((n : Int) + 1) = (n : Int) + 1 := wrap_i64 (by omega) (by omega)
    have ia := hn.ia1 (P := Try.prog) (t := 35) (e := 3) (by simp) (by simp) c .i64
    have ld := hn.ld1 (P := Try.prog) (f := 3) (by simp) c
    rw [List.getElem?_map, List.getElem?_eq_getElem c] at ld
    simp only [Option.map_some, needV] at ld
    have htk : y.needs.take (n + 1) = y.needs.take n ++ [y.needs[n]] := by rw [List.take_add_one, List.getElem?_eq_getElem c]; rfl
    have hlt := hwf y.needs[n] (List.getElem_mem _)
    generalize y.needs[n] = q at ld htk hlt
    have hq : q < l.length := by omega
    have iq := m.ia hq .i64
    have cq := m.c0 hq
    generalize hst : stA l q = sq at cq
    generalize hA : ((y.needs.take n).all fun n => decide (stA l n = 5)) = A at f4
    generalize hB : ((y.needs.take n).any fun n => decide (stA l n ≠ 5) && endS (stA l n)) = B at f5
    have hA' : ((y.needs.take (n + 1)).all fun n => decide (stA l n = 5)) = (A && decide (sq = 5)) := by rw [htk, List.all_append, hA]; simp [hst]
    have hB' : ((y.needs.take (n + 1)).any fun n => decide (stA l n ≠ 5) && endS (stA l n)) = (B || (decide (sq ≠ 5) && endS sq)) := by rw [htk, List.any_append, hB]; simp [hst]
    by_cases d : sq = 5
    · have d' : ((sq : Int) == 5) = true := by simp; omega
      have d5 : decide (sq = 5) = true := decide_eq_true d
      have d6 : decide (sq ≠ 5) = false := by simp [d]
      rw [d5, Bool.and_true] at hA'
      rw [d6, Bool.false_and, Bool.or_false] at hB'
      cases A <;> cases B
      all_goals
        simp [f0, f4, f5, f16, f17, f18, c', ia, ld, l0, iq, cq, d, d', w1, -load_ptr, -roundQ_normal, ↓rq]
        refine stop_intro ⟨y.needs.length - (n + 1), by omega, n + 1, rfl, by omega, by simp [f0], by simp [f16], by simp [f17], by simp, rfl, by rw [hA']; simp, by rw [hB']; simp [f5]⟩
    · have d' : ((sq : Int) == 5) = false := by simp; omega
      have d2 : ((sq : Int) != 5) = true := by simp; omega
      have d5 : decide (sq = 5) = false := decide_eq_false d
      have d6 : decide (sq ≠ 5) = true := by simp [d]
      rw [d5, Bool.and_false] at hA'
      rw [d6, Bool.true_and] at hB'
      cases A <;> cases B
      all_goals
        simp [f0, f4, f5, f16, f17, f18, c', ia, ld, l0, iq, cq, d, d', d2, w1, -load_ptr, -roundQ_normal, ↓rq]
        first
        | refine stop_intro ⟨y.needs.length - (n + 1), by omega, n + 1, rfl, by omega, by simp [f0], by simp [f16], by simp [f17], by simp, rfl, by rw [hA']; simp, by rw [hB']; simp⟩
        | refine after_call (ended_ev sq g) ?_
          rintro r g2 ⟨rfl, rfl⟩
          simp [f0, f4, f5, f16, f17, f18, w1, -load_ptr, -roundQ_normal, ↓rq]
          refine stop_intro ⟨y.needs.length - (n + 1), by omega, n + 1, rfl, by omega, by simp [f0], by simp [f16], by simp [f17], by simp, rfl, by rw [hA']; simp, by rw [hB']; simp⟩
  · have c' : ¬ (n : Int) < y.needs.length := by omega
    rw [List.take_of_length_le (by omega)] at f4 f5
    simp [f0, f4, f5, f16, f17, f18, c', passA, brokA]
theorem next_ev {h : Hp} {k b : Nat} {jv lv : Value} {js : List Jb} {l : List St} (i : Nat) (hi : i < l.length) (m : JM h k b jv lv js l) :
    EvA Try.prog 122 [.pointer (some ⟨b, 0, none⟩), .int .i64 (i : Nat)] (fun r h' => h' = h ∧ r = .int .u8 (nextA (js.getD i Jb.no) l (l.getD i St.no).played : Nat)) h := by
  refine EvA.body Try.func122 rfl (by kernel_rfl) (by simp) ?_
  apply Run.ok
  have l0 := m.l0
  have j0 := m.j0
  have ja := m.ja hi .i64
  have ia := m.ia hi .i64
  have j3 := m.j3 hi
  have c5 := m.c5 hi
  simp
  refine after_call (needed_ev i hi m) ?_
  rintro r h' ⟨rfl, rfl⟩
  generalize js.getD i Jb.no = y at *
  generalize (l.getD i St.no).played = p at *
  unfold nextA
  cases hb : brokA y l
  · cases hp : passA y l
    · simp
    · cases hm : y.manual
      · simp [j0, ja, j3, hm, -load_ptr]
      · cases p <;> simp [j0, ja, j3, hm, l0, ia, c5, -load_ptr]
  · simp
end Go.Proofs.Ytklhioaokogpdaa
