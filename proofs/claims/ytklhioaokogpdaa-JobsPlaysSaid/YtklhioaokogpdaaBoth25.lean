/- The law of layer 25: a step done to both jobs, and jobs' copy; no condition. -/
import Derived.Test.YtklhioaokogpdaaLawLoads25B
import Derived.Test.YtklhioaokogpdaaRefQ
namespace Go.Proofs.Ytklhioaokogpdaa
open Go.Ab
theorem passA_jb {y z : Jb} (h : y.needs = z.needs) (l : List St) : passA y l = passA z l := by unfold passA; rw [h]
theorem brokA_jb {y z : Jb} (h : y.needs = z.needs) (l : List St) : brokA y l = brokA z l := by unfold brokA; rw [h]
theorem nextA_jb {y z : Jb} (h : y.needs = z.needs) (h2 : y.manual = z.manual) (l : List St) (p : Bool) : nextA y l p = nextA z l p := by unfold nextA; rw [passA_jb h, brokA_jb h, h2]
theorem CP.congr {y z : Jb} {l : List St} {x : St} (h1 : y.needs = z.needs) (h2 : y.tries = z.tries) (h3 : y.manual = z.manual) (c : CP y l x) : CP z l x := by
  obtain ⟨_, _, _, _, _⟩ := y
  obtain ⟨_, _, _, _, _⟩ := z
  simp only at h1 h2 h3
  subst h1; subst h2; subst h3
  exact ⟨c.pm, c.tt, c.w, c.r3, c.r4, c.r5, c.r6, c.r7, c.r9⟩
theorem Conv.same {ps : List Pj} {js ks : List Jb} (a : Conv ps js) (b : Conv ps ks) : js.length = ks.length ∧ ∀ k, (js.getD k Jb.no).needs = (ks.getD k Jb.no).needs ∧ (js.getD k Jb.no).tries = (ks.getD k Jb.no).tries ∧ (js.getD k Jb.no).manual = (ks.getD k Jb.no).manual := by
  have hl : js.length = ks.length := by rw [a.1, b.1]
  refine ⟨hl, fun k => ?_⟩
  rcases Nat.lt_or_ge k ps.length with hk | hk
  · obtain ⟨a1, a2, _, a4⟩ := a.2 k hk
    obtain ⟨b1, b2, _, b4⟩ := b.2 k hk
    exact ⟨by rw [a1, b1], by rw [a2, b2], by rw [a4, b4]⟩
  · have h1 : js.getD k Jb.no = Jb.no := by rw [List.getD_eq_getElem?_getD, List.getElem?_eq_none (by have := a.1; omega)]; rfl
    have h2 : ks.getD k Jb.no = Jb.no := by rw [List.getD_eq_getElem?_getD, List.getElem?_eq_none (by have := b.1; omega)]; rfl
    rw [h1, h2]; exact ⟨rfl, rfl, rfl⟩
theorem Good.congr {ps : List Pj} {js ks : List Jb} {l : List St} (a : Conv ps js) (b : Conv ps ks) (g : Good js l) : Good ks l := by
  obtain ⟨hl, e⟩ := a.same b
  refine ⟨⟨by rw [g.inv.len, hl], fun k hk h2 h6 => ?_, g.inv.st, fun k hk => ?_, fun k hk h1 => ?_⟩, fun k hk => (g.cp k hk).congr (e k).1 (e k).2.1 (e k).2.2, g.val⟩
  · rw [← passA_jb (e k).1]; exact g.inv.pass k hk h2 h6
  · rw [← (e k).2.1]; exact g.inv.tr k hk
  · rw [← nextA_jb (e k).1 (e k).2.2]; exact g.inv.set k hk h1
theorem IsJs.congr {ps : List Pj} {js ks : List Jb} {b : List UInt8} {l : List St} (a : Conv ps js) (c : Conv ps ks) (g : IsJs js b l) : IsJs ks b l := by
  obtain ⟨hl, e⟩ := a.same c
  refine ⟨by rw [← hl]; exact g.1, fun k hk => ?_⟩
  rw [← couldP_congr l (l.getD k St.no) (e k).1 (e k).2.1 (e k).2.2]
  exact g.2 k (by omega)
theorem Good.T5 {js : List Jb} {ps : List Pj} {l : List St} (cv : Conv ps js) (hm : mayP ps = true) (g : Good js l) : ∀ x ∈ l, x.tried ≤ 5 ∧ -5 ≤ x.tried := by
  intro x hx
  obtain ⟨k, hk, rfl⟩ := List.mem_iff_getElem.1 hx
  rw [getD_at l St.no hk]
  have h1 := (g.inv.tr k hk).1
  have h2 := (cv.tries hm k (by have := g.inv.len; omega)).2
  have h3 := (g.val k hk).1
  omega
theorem JM.down {h : Hp} {k q b : Nat} {jv lv : Value} {js : List Jb} {l : List St} (hq : q ≤ k) (m : JM h k b jv lv js l) : JM h q b jv lv js l :=
  ⟨m.at_, by have := m.kb; omega, Acc.down hq m.jr, fun y hy => Acc.down hq (m.nr y hy), Acc.down hq m.lw, m.dj, m.djb, m.djn, m.len, m.wf, m.short, m.few⟩
theorem jbclone_ev {h : Hp} {k : Nat} {jv : Value} {js : List Jb} (ha : Acc k h 4 jv js.length (js.flatMap Jb.cells)) (hl : js.length ≤ 24) :
    EvA Try.prog 104 [jv] (fun r h' => Acc h.length h' 4 r js.length (js.flatMap Jb.cells) ∧ Same h h') h := by
  refine EvA.body Try.func104 rfl (by kernel_rfl) (by simp) ?_
  apply Run.ok
  have hsl := (ha.same (Same.new [.cells [] false none])).sl
  rcases row_nil ha.row with ⟨rfl, hn⟩ | ⟨a, c, rfl⟩
  · have : js = [] := List.eq_nil_of_length_eq_zero hn
    subst this
    simp
    exact ⟨Acc.nil _, Same.refl⟩
  · obtain ⟨v', h', e1, e2, e3, _⟩ := Acc.appendLit (P := Try.prog) (h := h ++ [.cells [] false none]) (z := 4) (k := h.length) (b := h.length) (t := 111) (tx := 111) (e := 128) (by_ := 48) (dx := .slice 128) (Nat.le_refl _) (by simp) (by simp) (by simp) (by simp) rfl hsl.1.2.1 (by rw [jbCells_len]) (by omega) (by omega)
    simp [zeros, capO, e1]
    exact ⟨e2, Same.trans (Same.new _) e3⟩
theorem jcopy_ev {h : Hp} {k b : Nat} {jv lv : Value} {js : List Jb} {l : List St} (m : JM h k b jv lv js l) :
    EvA Try.prog 59 [.pointer (some ⟨b, 0, none⟩)] (fun r h' => Same h h' ∧ ∃ b' jv' lv', r = .pointer (some ⟨b', 0, none⟩) ∧ JM h' k b' jv' lv' js l ∧ (∀ j, j = b' ∨ inRow jv' j ∨ inRow lv' j → h.length ≤ j)) h := by
  refine EvA.body Try.func59 rfl (by kernel_rfl) (by simp) ?_
  apply Run.ok
  have l0 := m.l0
  have j0 := m.j0
  have hkb := m.kb
  have hbh := hp_lt m.at_
  simp
  refine WpA.drawnA [0, 1, 2, 3, 5, 6, 7, 8, 4, 9, 10, 11, 12] [[], [], [], [], [0, 1, 2, 3], [], [], [], [], [0, 1, 2, 3, 4, 5, 6, 7, 8]] (by kernel_rfl) (by decide +kernel) (by decide +kernel) ?_
  simp [l0, j0, -load_ptr]
  refine after_call (jbclone_ev m.jr m.short) ?_
  rintro r1 g1 ⟨A1, s1⟩
  have M1 := m.same s1
  have l01 := M1.l0
  have j01 := M1.j0
  simp [l0, j0, l01, j01, -load_ptr]
  refine after_call (jclone_ev M1.lw m.l24) ?_
  rintro r2 g2 ⟨A2, s2⟩
  have hc1 := (Row.one A1.row).1
  have ho1 := (Row.one A1.row).2
  have hc2 := (Row.one A2.row).1
  have ho2 := (Row.one A2.row).2
  have M3 := (M1.same s2).same (Same.new [.cells [r1, r2] false none])
  have l03 := M3.l0
  have j03 := M3.j0
  simp [l0, j0, l01, j01, l03, j03, hc1, ho1, hc2, ho2, spl, -load_ptr]
  have hg1 := s1.len
  have hg2 := s2.len
  have s3 : Same g2 (g2 ++ [.cells [r1, r2] false none]) := Same.new _
  have sm := (s1.trans s2).trans s3
  have a1 : ∀ j, inRow r1 j → h.length ≤ j ∧ j < g1.length := fun j hj => A1.above j hj
  have a2 : ∀ j, inRow r2 j → g1.length ≤ j ∧ j < g2.length := fun j hj => A2.above j hj
  have an : ∀ y ∈ js, ∀ j, inRow y.nv j → j < h.length := fun y hy j hj => ((m.nr y hy).above j hj).2
  refine ⟨sm, r1, r2, ⟨by simp, by omega, Acc.down (by omega) ((A1.same s2).same s3), fun y hy => (m.nr y hy).same sm, Acc.down (by omega) (A2.same s3), fun j hj => ⟨by have := a2 j hj; omega, fun hin => by have := a2 j hj; have := a1 j hin; omega, fun y hy hin => by have := a2 j hj; have := an y hy j hin; omega⟩,
    fun j hj => by have := a1 j hj; omega, fun y hy j hj => ⟨by have := an y hy j hj; omega, fun hin => by have := an y hy j hj; have := a1 j hin; omega⟩, m.len, m.wf, m.short, m.few⟩, by omega, fun j hj => ?_⟩
  rcases hj with hj | hj
  · exact (a1 j hj).1
  · have := a2 j hj; omega
/-- a step done to jobs: what is answered, and how they stand -/
def actJ (js : List Jb) (l : List St) (p : Sp) : Int × List St :=
  if p.kind = 0 then startJ l p.i p.badge p.n else if p.kind = 1 then endJ js l p.i p.badge p.n else if p.kind = 2 then endsJ js l p.i p.badge 7 0
  else if p.kind = 3 then endsJ js l p.i p.badge 8 0 else if p.kind = 4 then endsJ js l p.i p.badge 11 0 else if p.kind = 5 then cancelJ js l p.i else if p.kind = 6 then playJ js l p.i else (0, l)
theorem actJ_good {js : List Jb} {l : List St} (wf : WfJ js) (h : Good js l) (p : Sp) : Good js (actJ js l p).2 := by
  unfold actJ
  split
  · exact startJ_good h _ _ _
  split
  · exact endJ_good wf h _ _ _
  split
  · exact endsJ_good wf h _ _ _ _ (by simp)
  split
  · exact endsJ_good wf h _ _ _ _ (by simp)
  split
  · exact endsJ_good wf h _ _ _ _ (by simp)
  split
  · exact cancelJ_good wf h _
  split
  · exact playJ_good wf h _
  · exact h
section
variable {h h0 : Hp} {k k' b c : Nat} {jv lv pv rv : Value} {js : List Jb} {l : List St} {ps : List Pj}
set_option maxHeartbeats 4000000 in
set_option maxRecDepth 6000 in
theorem both_ev (M : JM h k b jv lv js l) (R : RJ h k' c pv rv l) (p : PlanR h0 pv ps) (s0 : Same h0 h) (hkj : h0.length ≤ k) (hk : h0.length ≤ k') (hm : mayP ps = true) (cv : Conv ps js) (good : Good js l) (hd : ∀ j, ownJ b jv lv js j → ¬ ownR c rv j) (sp : Sp) :
    EvA Try.prog 61 [.pointer (some ⟨b, 0, none⟩), .pointer (some ⟨c, 0, none⟩), .agg sp.cells.toArray] (fun r h' => r = .bool true ∧ JM h' k b jv lv js (actJ js l sp).2 ∧ RJ h' k' c pv rv (actJ js l sp).2 ∧ Upd (fun j => inRow lv j ∨ inRow rv j) h h') h := by
  refine EvA.body Try.func61 rfl (by kernel_rfl) (by simp) ?_
  apply Run.ok
  have hT := good.T5 cv hm
  have h24 := M.l24
  have hl : l.length = ps.length := by rw [M.len, cv.1]
  have hcode : ∀ k, k < l.length → stA l k = 3 → (l.getD k St.no).code = 0 := fun k hk h3 => ((good.cp k hk).r3 h3).2.2.2.2
  obtain ⟨kd, pi, pb, pn⟩ := sp
  simp [Sp.cells]
  have sA : Same h (h ++ [.cells [.int .u8 kd, .int .i64 pi, .int .i64 pb, .int .i64 pn] false none]) := Same.new _
  have hsA : (h ++ [Blk.cells [.int .u8 kd, .int .i64 pi, .int .i64 pb, .int .i64 pn] false none])[h.length]? = some (.cells [.int .u8 kd, .int .i64 pi, .int .i64 pb, .int .i64 pn] false none) := by simp
  generalize h ++ [Blk.cells [.int .u8 kd, .int .i64 pi, .int .i64 pb, .int .i64 pn] false none] = gA at sA hsA ⊢
  have MA := M.same sA
  have RA := R.same sA
  have sA0 := s0.trans sA
  have kq : ∀ g, g[h.length]? = some (.cells [.int .u8 kd, .int .i64 pi, .int .i64 pb, .int .i64 pn] false none) → loadA Try.prog 3 (.pointer (some ⟨h.length, 1, none⟩)) g = some (.int .i64 pi) ∧ loadA Try.prog 3 (.pointer (some ⟨h.length, 2, none⟩)) g = some (.int .i64 pb) ∧ loadA Try.prog 3 (.pointer (some ⟨h.length, 3, none⟩)) g = some (.int .i64 pn) := fun g hg => by
    refine ⟨?_, ?_, ?_⟩ <;> (rw [load_at hg (by simp)]; rfl)
  have k0 : loadA Try.prog 5 (.pointer (some ⟨h.length, 0, none⟩)) gA = some (.int .u8 kd) := by rw [load_at hsA (by simp)]; rfl
  obtain ⟨k1, k2, k3⟩ := kq gA hsA
  have hlv : ∀ j, inRow lv j → k ≤ j ∧ j < h.length := fun j hj => M.lw.above j hj
  have kk : ∀ g1, Upd (inRow lv) gA g1 → loadA Try.prog 3 (.pointer (some ⟨h.length, 1, none⟩)) g1 = some (.int .i64 pi) ∧ loadA Try.prog 3 (.pointer (some ⟨h.length, 2, none⟩)) g1 = some (.int .i64 pb) ∧ loadA Try.prog 3 (.pointer (some ⟨h.length, 3, none⟩)) g1 = some (.int .i64 pn) ∧ RJ g1 k' c pv rv l ∧ Same h0 g1 := fun g1 u1 => by
    obtain ⟨x1, x2, x3⟩ := kq g1 (u1.at hsA fun hin => by have := (hlv _ hin).2; omega)
    exact ⟨x1, x2, x3, RA.upd u1 fun j hj hin => hd j (.inr (.inr (.inl hin))) hj, Upd.trans sA0 u1 fun j hj hin => by have := (hlv j hin).1; omega⟩
  have fin : ∀ {g1 g2 : Hp} {L : List St}, Upd (inRow lv) gA g1 → JM g1 k b jv lv js L → RJ g2 k' c pv rv L → Upd (inRow rv) g1 g2 → JM g2 k b jv lv js L ∧ RJ g2 k' c pv rv L ∧ Upd (fun j => inRow lv j ∨ inRow rv j) h g2 := fun u1 M1 R2 u2 =>
    ⟨M1.upd u2 fun j hj hin => hd j hj (.inr hin), R2, Upd.trans (Upd.trans (sA.mono fun _ _ h => h.elim) u1 fun _ _ h => .inl h) u2 fun _ _ h => .inr h⟩
  unfold actJ
  simp only
  by_cases c0 : kd = 0
  · rw [if_pos c0]
    simp [k0, c0, -load_ptr]
    refine WpA.drawnA [0, 1, 2, 3, 4, 5, 6, 8, 9, 10, 11, 12, 13, 14, 7, 15, 16, 17] [[], [], [], [], [], [], [], [0, 1, 2, 3, 4, 5, 6], [], [], [], [], [], [], [], [0, 1, 2, 3, 4, 5, 6, 7, 8, 9, 10, 11, 12, 13, 14]] (by kernel_rfl) (by decide +kernel) (by decide +kernel) ?_
    simp [k1, k2, k3, -load_ptr]
    refine after_call (jstart_ev MA pi pb pn hT) ?_
    rintro r g1 ⟨rfl, M1, u1⟩
    obtain ⟨q1, q2, q3, R1, s1⟩ := kk g1 u1
    simp [k1, k2, k3, q1, q2, q3, -load_ptr]
    refine after_call (rstart_ev R1 pi pb pn hT h24 hcode) ?_
    rintro r g2 ⟨rfl, R2, u2⟩
    simp [k1, k2, k3, q1, q2, q3, -load_ptr]
    exact fin u1 M1 R2 u2
  rw [if_neg c0]
  have c0' : (kd == 0) = false := by simpa using c0
  by_cases c1 : kd = 1
  · rw [if_pos c1]
    simp [k0, c0', c1, -load_ptr]
    refine WpA.drawnA [0, 1, 2, 3, 4, 5, 6, 8, 9, 10, 11, 12, 13, 14, 7, 15, 16, 17] [[], [], [], [], [], [], [], [0, 1, 2, 3, 4, 5, 6], [], [], [], [], [], [], [], [0, 1, 2, 3, 4, 5, 6, 7, 8, 9, 10, 11, 12, 13, 14]] (by kernel_rfl) (by decide +kernel) (by decide +kernel) ?_
    simp [k1, k2, k3, -load_ptr]
    refine after_call (jend_ev MA pi pb pn) ?_
    rintro r g1 ⟨rfl, M1, u1⟩
    obtain ⟨q1, q2, q3, R1, s1⟩ := kk g1 u1
    simp [k1, k2, k3, q1, q2, q3, -load_ptr]
    refine after_call (rend_ev R1 p s1 hk hm cv hl pi pb pn) ?_
    rintro r g2 ⟨rfl, R2, u2⟩
    simp [k1, k2, k3, q1, q2, q3, -load_ptr]
    exact fin u1 M1 R2 u2
  rw [if_neg c1]
  have c1' : (kd == 1) = false := by simpa using c1
  by_cases c2 : kd = 2
  · rw [if_pos c2]
    simp [k0, c0', c1', c2, -load_ptr]
    refine WpA.drawnA [0, 1, 2, 3, 4, 6, 7, 8, 9, 10, 5, 11, 12, 13] [[], [], [], [], [], [0, 1, 2, 3, 4], [], [], [], [], [], [0, 1, 2, 3, 4, 5, 6, 7, 8, 9, 10]] (by kernel_rfl) (by decide +kernel) (by decide +kernel) ?_
    simp [k1, k2, -load_ptr]
    refine after_call (jlose_ev MA pi pb) ?_
    rintro r g1 ⟨rfl, M1, u1⟩
    obtain ⟨q1, q2, q3, R1, s1⟩ := kk g1 u1
    simp [k1, k2, q1, q2, -load_ptr]
    refine after_call (rlose_ev R1 p s1 hk hm cv hl pi pb) ?_
    rintro r g2 ⟨rfl, R2, u2⟩
    simp [k1, k2, q1, q2, -load_ptr]
    exact fin u1 M1 R2 u2
  rw [if_neg c2]
  have c2' : (kd == 2) = false := by simpa using c2
  by_cases c3 : kd = 3
  · rw [if_pos c3]
    simp [k0, c0', c1', c2', c3, -load_ptr]
    refine WpA.drawnA [0, 1, 2, 3, 4, 6, 7, 8, 9, 10, 5, 11, 12, 13] [[], [], [], [], [], [0, 1, 2, 3, 4], [], [], [], [], [], [0, 1, 2, 3, 4, 5, 6, 7, 8, 9, 10]] (by kernel_rfl) (by decide +kernel) (by decide +kernel) ?_
    simp [k1, k2, -load_ptr]
    refine after_call (jstop_ev MA pi pb) ?_
    rintro r g1 ⟨rfl, M1, u1⟩
    obtain ⟨q1, q2, q3, R1, s1⟩ := kk g1 u1
    simp [k1, k2, q1, q2, -load_ptr]
    refine after_call (rstop_ev R1 p s1 hk hm cv hl pi pb) ?_
    rintro r g2 ⟨rfl, R2, u2⟩
    simp [k1, k2, q1, q2, -load_ptr]
    exact fin u1 M1 R2 u2
  rw [if_neg c3]
  have c3' : (kd == 3) = false := by simpa using c3
  by_cases c4 : kd = 4
  · rw [if_pos c4]
    simp [k0, c0', c1', c2', c3', c4, -load_ptr]
    refine WpA.drawnA [0, 1, 2, 3, 4, 6, 7, 8, 9, 10, 5, 11, 12, 13] [[], [], [], [], [], [0, 1, 2, 3, 4], [], [], [], [], [], [0, 1, 2, 3, 4, 5, 6, 7, 8, 9, 10]] (by kernel_rfl) (by decide +kernel) (by decide +kernel) ?_
    simp [k1, k2, -load_ptr]
    refine after_call (jfull_ev MA pi pb) ?_
    rintro r g1 ⟨rfl, M1, u1⟩
    obtain ⟨q1, q2, q3, R1, s1⟩ := kk g1 u1
    simp [k1, k2, q1, q2, -load_ptr]
    refine after_call (rfull_ev R1 p s1 hk hm cv hl pi pb) ?_
    rintro r g2 ⟨rfl, R2, u2⟩
    simp [k1, k2, q1, q2, -load_ptr]
    exact fin u1 M1 R2 u2
  rw [if_neg c4]
  have c4' : (kd == 4) = false := by simpa using c4
  by_cases c5 : kd = 5
  · rw [if_pos c5]
    simp [k0, c0', c1', c2', c3', c4', c5, -load_ptr]
    refine WpA.drawnA [0, 1, 2, 4, 5, 6, 3, 7, 8, 9] [[], [], [], [0, 1, 2], [], [], [], [0, 1, 2, 3, 4, 5, 6]] (by kernel_rfl) (by decide +kernel) (by decide +kernel) ?_
    simp [k1, -load_ptr]
    refine after_call (jcancel_ev MA pi) ?_
    rintro r g1 ⟨rfl, M1, u1⟩
    obtain ⟨q1, q2, q3, R1, s1⟩ := kk g1 u1
    simp [k1, q1, -load_ptr]
    refine after_call (rcancel_ev R1 p s1 hk hm cv hl pi) ?_
    rintro r g2 ⟨rfl, R2, u2⟩
    simp [k1, q1, -load_ptr]
    exact fin u1 M1 R2 u2
  rw [if_neg c5]
  have c5' : (kd == 5) = false := by simpa using c5
  by_cases c6 : kd = 6
  · rw [if_pos c6]
    simp [k0, c0', c1', c2', c3', c4', c5', c6, -load_ptr]
    refine WpA.drawnA [0, 1, 2, 4, 5, 6, 3, 7, 8, 9] [[], [], [], [0, 1, 2], [], [], [], [0, 1, 2, 3, 4, 5, 6]] (by kernel_rfl) (by decide +kernel) (by decide +kernel) ?_
    simp [k1, -load_ptr]
    refine after_call (jplay_ev MA pi) ?_
    rintro r g1 ⟨rfl, M1, u1⟩
    obtain ⟨q1, q2, q3, R1, s1⟩ := kk g1 u1
    simp [k1, q1, -load_ptr]
    refine after_call (rplay_ev R1 MA.wf good.inv pi) ?_
    rintro r g2 ⟨rfl, R2, u2⟩
    simp [k1, q1, -load_ptr]
    exact fin u1 M1 R2 u2
  rw [if_neg c6]
  have c6' : (kd == 6) = false := by simpa using c6
  simp [k0, c0', c1', c2', c3', c4', c5', c6', -load_ptr]
  exact ⟨MA, RA, sA.mono fun _ _ h => h.elim⟩
end
end Go.Proofs.Ytklhioaokogpdaa
