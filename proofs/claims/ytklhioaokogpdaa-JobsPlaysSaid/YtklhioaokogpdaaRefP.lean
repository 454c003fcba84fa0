/- bastionref25: the calls that change the document's jobs; no condition. -/
import Derived.Test.YtklhioaokogpdaaRLoad25
import Derived.Test.YtklhioaokogpdaaPPlays
namespace Go.Proofs.Ytklhioaokogpdaa
open Go.Ab
section
variable {h h0 h' : Hp} {k c : Nat} {pv rv : Value} {l : List St} {ps : List Pj} {js : List Jb}
theorem RJ.put {m' : List St} (m : RJ h k c pv rv l) (w : Acc k h' 6 rv m'.length (m'.flatMap St.cells)) (u : Upd (inRow rv) h h') : RJ h' k c pv rv m' :=
  ⟨u.at m.at_ (fun hin => m.ne _ hin rfl), m.kc, w, m.ne⟩
theorem RJ.c0 (m : RJ h k c pv rv l) {i : Nat} (hi : i < l.length) : loadA Try.prog 5 (.pointer (some ⟨rbl rv, rof rv + i * 6, none⟩)) h = some (.int .u8 (stA l i : Nat)) := by
  rw [m.t.cell0 (P := Try.prog) (f := 5) (by simp) hi (by omega), getD_at l St.no hi]; rfl
theorem RJ.c1 (m : RJ h k c pv rv l) {i : Nat} (hi : i < l.length) : loadA Try.prog 3 (.pointer (some ⟨rbl rv, rof rv + i * 6 + 1, none⟩)) h = some (.int .i64 (l.getD i St.no).tried) := by
  rw [m.t.cell (P := Try.prog) (f := 3) (j := 1) (by simp) hi (by omega), getD_at l St.no hi]; rfl
theorem RJ.c5 (m : RJ h k c pv rv l) {i : Nat} (hi : i < l.length) : loadA Try.prog 4 (.pointer (some ⟨rbl rv, rof rv + i * 6 + 5, none⟩)) h = some (.bool (l.getD i St.no).played) := by
  rw [m.t.cell (P := Try.prog) (f := 4) (j := 5) (by simp) hi (by omega), getD_at l St.no hi]; rfl
theorem RJ.sta (m : RJ h k c pv rv l) {i : Nat} (hi : i < l.length) (y : St) :
    ∃ h', storeA Try.prog 124 (.pointer (some ⟨rbl rv, rof rv + i * 6, none⟩)) (.agg y.cells.toArray) h = some h' ∧ RJ h' k c pv rv (l.set i y) ∧ Upd (inRow rv) h h' := by
  obtain ⟨h', e1, e2, e3, e4⟩ := m.rw.storea (P := Try.prog) (e := 124) (ys := y.cells) (by simp) rfl (stCells_one y) hi
  rw [flatMap_set1 (cells := St.cells) (z := 6) l i y (fun _ _ => rfl) hi] at e2
  have u : Upd (inRow rv) h h' := e3.mono fun j _ hj => by rw [hj]; exact m.t.1.inRow hi
  exact ⟨h', e1, m.put (by simpa using e2) u, u⟩
theorem RJ.st0 (m : RJ h k c pv rv l) {i : Nat} (hi : i < l.length) (s : Nat) :
    ∃ h', storeA Try.prog 5 (.pointer (some ⟨rbl rv, rof rv + i * 6, none⟩)) (.int .u8 (s : Nat)) h = some h' ∧ RJ h' k c pv rv (setS l i s) ∧ Upd (inRow rv) h h' := by
  obtain ⟨h', e1, e2, e3, e4⟩ := m.rw.storec (P := Try.prog) (e := 5) (x := .int .u8 (s : Nat)) (j := 0) (by simp) rfl hi (by omega)
  rw [flatMap_setc (cells := St.cells) (z := 6) l i 0 ((l.getD i St.no).to s) _ (fun _ _ => rfl) hi (by omega) (by rw [getD_at l St.no hi]; rfl)] at e2
  have u : Upd (inRow rv) h h' := e3.mono fun j _ hj => by rw [hj]; exact m.t.1.inRow hi
  exact ⟨h', e1, m.put (by simpa [setS] using e2) u, u⟩
theorem RJ.stj (m : RJ h k c pv rv l) {i : Nat} (hi : i < l.length) {j : Nat} {t : TypeId} {x : Value} (y : St) (hj : j < 6) (ht : sizeT Try.prog t = some 1) (hx : oneA x = true) (hc : y.cells = (l.getD i St.no).cells.set j x) :
    ∃ h', storeA Try.prog t (.pointer (some ⟨rbl rv, rof rv + i * 6 + j, none⟩)) x h = some h' ∧ RJ h' k c pv rv (l.set i y) ∧ Upd (inRow rv) h h' := by
  obtain ⟨h', e1, e2, e3, e4⟩ := m.rw.storec (P := Try.prog) (e := t) (x := x) (j := j) ht hx hi hj
  rw [flatMap_setc (cells := St.cells) (z := 6) l i j y _ (fun _ _ => rfl) hi hj (by rw [getD_at l St.no hi]; exact hc)] at e2
  have u : Upd (inRow rv) h h' := e3.mono fun j _ hj => by rw [hj]; exact m.t.1.inRow hi
  exact ⟨h', e1, m.put (by simpa using e2) u, u⟩
theorem RJ.sm (m : RJ h k c pv rv l) (s : Same h0 h) (hk : h0.length ≤ k) (u : Upd (inRow rv) h h') : Same h0 h' :=
  Upd.trans s u fun j hj hin => by have := (m.rw.above j hin).1; omega
set_option maxHeartbeats 1000000 in
theorem rsettle_ev (m : RJ h k c pv rv l) (p : PlanR h0 pv ps) (s0 : Same h0 h) (hk : h0.length ≤ k) (hm : mayP ps = true) (cv : Conv ps js) (hl : l.length = ps.length) :
    EvA Try.prog 105 [.pointer (some ⟨c, 0, none⟩)] (fun r h' => RJ h' k c pv rv (settle js l) ∧ Upd (inRow rv) h h') h := by
  refine EvA.body Try.func105 rfl (by kernel_rfl) (by simp) ?_
  apply Run.ok
  have h24 := (mayP_spec hm).1
  simp
  refine WpA.loop (fun z fr g => ∃ (n : Nat), z = l.length - n ∧ n ≤ l.length ∧ fr 0 = .pointer (some ⟨c, 0, none⟩) ∧ fr 2 = .int .i64 (n : Nat) ∧ RJ g k c pv rv (setN js n l) ∧ Upd (inRow rv) h g ∧ Same h0 g)
    (k := l.length) ⟨0, by simp, by omega, by simp, by simp, m, Upd.refl, s0⟩ ?_
  rintro z fr g ⟨n, rfl, hn, f0, f2, M, u, sg⟩
  apply Run.ok
  have l0 := M.l0
  have tl := M.tl
  rw [setN_len] at tl
  by_cases d : n < l.length
  · have d' : (n : Int) < l.length := by omega
    have w1 : IntKind.i64.wrap ((n : Int) + 1) = (n : Int) + 1 := wrap_i64 (by omega) (by omega)
    have hnl : n < (setN js n l).length := by rw [setN_len]; exact d
    have hql : (setN js n l).length = ps.length := by rw [setN_len, hl]
    have hN : setN js (n + 1) l = set1 js (setN js n l) n := rfl
    have ia := RS_ia M.t hnl
    have c0 := M.c0 hnl
    have c5 := M.c5 hnl
    generalize setN js n l = q at M hnl ia c0 c5 hN hql
    generalize hpl : (q.getD n St.no).played = pl at c5
    by_cases e : stA q n = 1
    · have e' : ((stA q n : Int) == 1) = true := by simp; omega
      simp [f0, f2, l0, tl, d', ia, c0, e', -load_ptr]
      refine WpA.drawnA [0, 1, 2, 3, 4, 5, 6, 7, 8, 9, 10, 11, 12, 13, 14, 15, 16, 17, 18] [[], [], [], [], [], [], [], [], [], [], [], [], [], [], [], [5, 6, 7, 8, 9, 10, 11, 12, 13, 14], [], [], [0, 1, 2, 3, 4, 5, 6, 7, 8, 9, 10, 11, 12, 13, 14, 15, 16, 17]] (by kernel_rfl) (by decide +kernel) (by decide +kernel) ?_
      simp [f0, f2, l0, ia, c5, -load_ptr]
      refine after_call (rsettled_ev M (p.same sg) hm cv hql n (by omega) pl) ?_
      rintro r g2 ⟨rfl, rfl⟩
      have hs1 : set1 js q n = setS q n (nextA (js.getD n Jb.no) q pl) := by unfold set1; rw [if_pos e, hpl]
      generalize nextA (js.getD n Jb.no) q pl = nx at hs1 ⊢
      obtain ⟨g3, q1, q2, q3⟩ := M.st0 hnl nx
      simp [f0, f2, l0, ia, q1, w1, -load_ptr, -store_ptr, -roundQ_normal, ↓rq]
      refine stop_intro ⟨l.length - (n + 1), by omega, n + 1, rfl, by omega, by simp [f0], by simp, by rw [hN, hs1]; exact q2, Upd.trans u q3 (fun _ _ h => h), M.sm sg hk q3⟩
    · have e' : ((stA q n : Int) == 1) = false := by simp; omega
      have hs1 : set1 js q n = q := by unfold set1; rw [if_neg e]
      simp [f0, f2, l0, tl, d', ia, c0, e', w1, -load_ptr, -roundQ_normal, ↓rq]
      refine stop_intro ⟨l.length - (n + 1), by omega, n + 1, rfl, by omega, by simp [f0], by simp, by rw [hN, hs1]; exact M, u, sg⟩
  · have d' : ¬ (n : Int) < l.length := by omega
    have hn' : n = l.length := by omega
    subst hn'
    simp [f0, f2, l0, tl, -load_ptr]
    exact ⟨M, u⟩
set_option maxHeartbeats 2000000 in
set_option maxRecDepth 6000 in
theorem rnew25_ev {v : Value} (p : PlanR h v ps) (cv : Conv ps js) :
    EvA Try.prog 60 [.agg #[v]] (fun r h' => Same h h' ∧ ((mayP ps = false ∧ r = .tuple #[.pointer none, .int .i64 1]) ∨
      (mayP ps = true ∧ ∃ c rv, r = .tuple #[.pointer (some ⟨c, 0, none⟩), .int .i64 0] ∧ RJ h' h.length c v rv (settle js (List.replicate js.length St.no))))) h := by
  refine EvA.body Try.func60 rfl (by kernel_rfl) (by simp) ?_
  apply Run.ok
  have hcv := (Row.one p.row.1).1
  have hov := (Row.one p.row.1).2
  simp [hcv, hov]
  have s1 : Same h (h ++ [.cells [v] false none]) := Same.new _
  have hB : (h ++ [Blk.cells [v] false none])[h.length]? = some (.cells [v] false none) := by simp
  have hl1 : (h ++ [Blk.cells [v] false none]).length = h.length + 1 := by simp
  generalize h ++ [Blk.cells [v] false none] = h1 at s1 hB hl1 ⊢
  have l1 : ∀ g, Same h1 g → loadA Try.prog 50 (.pointer (some ⟨h.length, 0, none⟩)) g = some (.agg #[v]) := fun g s => by simp [s.at hB]
  have lj : ∀ g, Same h1 g → loadA Try.prog 48 (.pointer (some ⟨h.length, 0, none⟩)) g = some v := fun g s => by rw [load_at (s.at hB) (by simp)]; rfl
  refine after_call (rmay_ev (p.same s1)) ?_
  rintro r h2 ⟨rfl, s2⟩
  cases hm : mayP ps with
  | false =>
    simp
    exact s1.trans s2
  | true =>
    simp [l1 _ s2, cellsOf, spl, hov, -load_ptr]
    have s3 : Same h2 (h2 ++ [.cells [v, .slice none 0 0] false none]) := Same.new _
    have hno : ∀ j, ¬ inRow (.slice none 0 0) j := fun j hj => by obtain ⟨a, n, c, he, _⟩ := hj; cases he
    have m3 : RJ (h2 ++ [.cells [v, .slice none 0 0] false none]) h2.length h2.length v (.slice none 0 0) [] := ⟨by simp, Nat.le_refl _, Acc.nil _, fun j hj => absurd hj (hno j)⟩
    generalize h2 ++ [Blk.cells [v, .slice none 0 0] false none] = h3 at s3 m3 ⊢
    have sm3 := (s1.trans s2).trans s3
    have sh3 := s2.trans s3
    have hh2 := s2.len
    have hps := cv.1
    have h24 := (mayP_spec hm).1
    obtain ⟨c, hc⟩ : ∃ c, c = h2.length := ⟨_, rfl⟩
    rw [← hc] at m3 ⊢
    refine WpA.loop (fun z fr g => ∃ (i : Nat) (rv : Value), z = js.length - i ∧ i ≤ js.length ∧ fr 1 = .pointer (some ⟨h.length, 0, none⟩) ∧ fr 4 = .pointer (some ⟨c, 0, none⟩) ∧ fr 5 = .int .i64 (i : Nat) ∧ Same h g ∧ Same h1 g ∧ RJ g c c v rv (List.replicate i St.no))
      (k := js.length) ⟨0, _, by simp, by omega, by simp, by simp, by simp, sm3, sh3, m3⟩ ?_
    clear m3 sm3 sh3 s3
    rintro z fr g ⟨i, rv, rfl, hi, f1, f4, f5, sm, sh, M⟩
    apply Run.ok
    have ljg := lj _ sh
    have PT := p.same sm
    have tp := PT.row.len (P := Try.prog) (t := 48) (e := 67) (by simp)
    by_cases d : i < js.length
    · have d' : (i : Int) < ps.length := by omega
      have wi : IntKind.i64.wrap ((i : Int) + 1) = (i : Int) + 1 := wrap_i64 (by omega) (by omega)
      have l06 := M.l0
      have sB : Same g (g ++ [.cells [.int .u8 1, .int .i64 0, .int .i64 0, .int .i64 0, .int .i64 0, .bool false] false none]) := Same.new _
      have hsB : srcA 6 (.slice (some ⟨g.length, 0, none⟩) 1 1) (g ++ [Blk.cells [.int .u8 1, .int .i64 0, .int .i64 0, .int .i64 0, .int .i64 0, .bool false] false none]) = some (1, [.int .u8 1, .int .i64 0, .int .i64 0, .int .i64 0, .int .i64 0, .bool false]) := by simp [srcA]
      have MB := M.same sB
      have AB := MB.rw
      have hlB : (g ++ [Blk.cells [.int .u8 1, .int .i64 0, .int .i64 0, .int .i64 0, .int .i64 0, .bool false] false none]).length = g.length + 1 := by simp
      have hcg := (M.lo (.inl rfl)).2
      obtain ⟨rv', g8, e8, A8, u8, n8⟩ := AB.append (P := Try.prog) (by_ := 48) (t := 119) (tx := 119) (e := 124) (x := .slice (some ⟨g.length, 0, none⟩) 1 1) (m := 1) (ys := [.int .u8 1, .int .i64 0, .int .i64 0, .int .i64 0, .int .i64 0, .bool false]) (by omega) (by simp) (by simp) (by simp; rfl) (by simp [isSrc]) hsB (by simp) rfl (by simp; omega) (by simp; omega)
      have hc8' : g8[c]? = some (.cells [v, rv] false none) := u8.at MB.at_ fun hin => M.ne c hin rfl
      have hcl8 := hp_lt hc8'
      have hc8 := (Row.one A8.row).1
      have ho8 := (Row.one A8.row).2
      have q8 : storeA Try.prog 119 (.pointer (some ⟨c, 1, none⟩)) rv' g8 = some (g8.set c (.cells [v, rv'] false none)) := by simp [storeA, hc8', hc8, ho8, spl]
      have u9 : Upd (· = c) g8 (g8.set c (.cells [v, rv'] false none)) := Upd.set (S := (· = c)) rfl _
      have hc9 : (g8.set c (.cells [v, rv'] false none))[c]? = some (.cells [v, rv'] false none) := by simp [hcl8]
      simp [f1, f4, f5, ljg, tp, d', l06, e8, q8, wi, zeros, capO, cellsOf, spl, -load_ptr, -store_ptr, -roundQ_normal, ↓rq]
      generalize g8.set c (.cells [v, rv'] false none) = g9 at hc9 u9 ⊢
      have hrl : ∀ j, inRow rv j → c ≤ j := fun j hj => (M.rw.above j hj).1
      have sm8 : Same h g8 := Upd.trans (sm.trans sB) u8 fun j hj hin => by have := hrl j hin; omega
      have sm9 : Same h g9 := Upd.trans sm8 u9 fun j hj e => by omega
      have sh8 : Same h1 g8 := Upd.trans (sh.trans sB) u8 fun j hj hin => by have := hrl j hin; omega
      have sh9 : Same h1 g9 := Upd.trans sh8 u9 fun j hj e => by omega
      have hrv' : ∀ j, inRow rv' j → j ≠ c := fun j hj => by
        rcases n8 j hj with h1 | h1
        · exact M.ne j h1
        · rw [hlB] at h1; omega
      refine stop_intro ⟨js.length - (i + 1), by omega, i + 1, rv', rfl, by omega, by simp [f1], by simp [f4], by simp, sm9, sh9, ⟨hc9, Nat.le_refl _, ?_, hrv'⟩⟩
      have := A8.upd u9 fun j hj => hrv' j hj
      rw [← replicate_snoc, List.length_append, List.flatMap_append, List.flatMap_singleton]
      exact this
    · have d' : ¬ (i : Int) < ps.length := by omega
      have hij : i = js.length := by omega
      subst hij
      simp [f1, f4, f5, ljg, tp, d', -load_ptr]
      refine after_call (rsettle_ev M p sm (by omega) hm cv (by simp [hps])) ?_
      rintro r g2 ⟨R2, u2⟩
      simp [f4]
      exact ⟨M.sm sm (by omega) u2, rv, ⟨R2.at_, by omega, Acc.down (by omega) R2.rw, R2.ne⟩⟩
/-- how a call has changed the document's jobs -/
def DidR (h : Hp) (k c : Nat) (pv rv : Value) (o : Int × List St) (r : Value) (h' : Hp) : Prop := r = .int .i64 o.1 ∧ RJ h' k c pv rv o.2 ∧ Upd (inRow rv) h h'
set_option maxHeartbeats 1000000 in
theorem rstart_ev (m : RJ h k c pv rv l) (i badge now : Int) (hT : ∀ x ∈ l, x.tried ≤ 5 ∧ -5 ≤ x.tried) (h24 : l.length ≤ 24) (hcode : ∀ k, k < l.length → stA l k = 3 → (l.getD k St.no).code = 0) :
    EvA Try.prog 106 [.pointer (some ⟨c, 0, none⟩), .int .i64 i, .int .i64 badge, .int .i64 now] (DidR h k c pv rv (startJ l i badge now)) h := by
  refine EvA.body Try.func106 rfl (by kernel_rfl) (by simp) ?_
  apply Run.ok
  have l0 := m.l0
  have tl := m.tl
  unfold startJ
  by_cases c1 : i < 0
  · rw [if_pos (.inl c1)]
    simp [c1]
    exact ⟨rfl, m, Upd.refl⟩
  by_cases c2 : (l.length : Int) ≤ i
  · rw [if_pos (.inr c2)]
    simp [c1, l0, tl, c2, -load_ptr]
    exact ⟨rfl, m, Upd.refl⟩
  rw [if_neg (by omega)]
  by_cases c3 : badge < 1
  · rw [if_pos (.inl c3)]
    simp [c1, l0, tl, c2, c3, -load_ptr]
    exact ⟨rfl, m, Upd.refl⟩
  by_cases c4 : 2147483647 < badge
  · rw [if_pos (.inr (.inl c4))]
    simp [c1, l0, tl, c2, c3, c4, -load_ptr]
    exact ⟨rfl, m, Upd.refl⟩
  by_cases c5 : now < 0
  · rw [if_pos (.inr (.inr (.inl c5)))]
    simp [c1, l0, tl, c2, c3, c4, c5, -load_ptr]
    exact ⟨rfl, m, Upd.refl⟩
  by_cases c6 : 2147483647 < now
  · rw [if_pos (.inr (.inr (.inr c6)))]
    simp [c1, l0, tl, c2, c3, c4, c5, c6, -load_ptr]
    exact ⟨rfl, m, Upd.refl⟩
  rw [if_neg (by omega)]
  obtain ⟨n, rfl⟩ : ∃ n : Nat, i = (n : Int) := ⟨i.toNat, by omega⟩
  rw [Int.toNat_natCast]
  have hn : n < l.length := by omega
  have ia := RS_ia m.t hn
  have x0 := m.c0 hn
  have hx : l.getD n St.no ∈ l := by rw [← getD_at l St.no hn]; exact List.getElem_mem _
  have hT' := hT _ hx
  have hcd := hcode n hn
  by_cases d : stA l n = 3
  · rw [if_neg (by omega)]
    have d' : ((stA l n : Int) != 3) = false := by simp; omega
    have hcd := hcd d
    obtain ⟨g1, a1, m1, u1⟩ := m.st0 hn 4
    have hn1 : n < (setS l n 4).length := by simpa [setS] using hn
    have hg1 : (setS l n 4).getD n St.no = (l.getD n St.no).to 4 := by unfold setS; rw [getD_set l _ hn, if_pos rfl]
    have ls1 : setS l n 4 = l.set n ((l.getD n St.no).to 4) := rfl
    have t1 := m1.c1 hn1
    have l01 := m1.l0
    rw [hg1] at t1
    generalize hxx : l.getD n St.no = x at hT' hcd hg1 ls1 t1 ⊢
    obtain ⟨xs, xt, xb, xn, xc, xp⟩ := x
    simp only [St.to] at hg1 ls1 t1 hT' hcd
    subst hcd
    have w1 : IntKind.i64.wrap (xt + 1) = xt + 1 := wrap_i64 (by omega) (by omega)
    rw [ls1] at m1 hg1 hn1
    obtain ⟨g2, a2, m2, u2⟩ := m1.stj hn1 (j := 1) (t := 3) (x := .int .i64 (xt + 1)) ⟨4, xt + 1, xb, xn, 0, xp⟩ (by omega) (by simp) rfl (by rw [hg1]; rfl)
    rw [List.set_set] at m2
    have hn2 : n < (l.set n (⟨4, xt + 1, xb, xn, 0, xp⟩ : St)).length := by simpa using hn
    have hg2 : (l.set n (⟨4, xt + 1, xb, xn, 0, xp⟩ : St)).getD n St.no = ⟨4, xt + 1, xb, xn, 0, xp⟩ := by rw [getD_set l _ hn, if_pos rfl]
    have l02 := m2.l0
    obtain ⟨g3, a3, m3, u3⟩ := m2.stj hn2 (j := 2) (t := 3) (x := .int .i64 badge) ⟨4, xt + 1, badge, xn, 0, xp⟩ (by omega) (by simp) rfl (by rw [hg2]; rfl)
    rw [List.set_set] at m3
    have hn3 : n < (l.set n (⟨4, xt + 1, badge, xn, 0, xp⟩ : St)).length := by simpa using hn
    have hg3 : (l.set n (⟨4, xt + 1, badge, xn, 0, xp⟩ : St)).getD n St.no = ⟨4, xt + 1, badge, xn, 0, xp⟩ := by rw [getD_set l _ hn, if_pos rfl]
    have l03 := m3.l0
    obtain ⟨g4, a4, m4, u4⟩ := m3.stj hn3 (j := 3) (t := 3) (x := .int .i64 now) ⟨4, xt + 1, badge, now, 0, xp⟩ (by omega) (by simp) rfl (by rw [hg3]; rfl)
    rw [List.set_set] at m4
    simp [-store_ptr] at a1
    simp [c1, l0, tl, c2, c3, c4, c5, c6, ia, x0, d', a1, -load_ptr, -store_ptr]
    refine WpA.drawnA [0, 1, 2, 3, 4, 5, 6, 7, 8, 9, 10, 11, 12, 13, 14, 15, 16] [[], [], [], [], [], [], [], [], [], [], [], [], [], [], [], [], [0, 1, 2, 3, 4, 5, 6, 7, 8, 9, 10, 11, 12, 13, 14, 15]] (by kernel_rfl) (by decide +kernel) (by decide +kernel) ?_
    simp [l01, l02, l03, ia, t1, w1, a2, a3, a4, -load_ptr, -store_ptr]
    exact ⟨rfl, m4, Upd.trans (Upd.trans (Upd.trans u1 u2 (fun _ _ h => h)) u3 (fun _ _ h => h)) u4 (fun _ _ h => h)⟩
  · rw [if_pos d]
    have d' : ((stA l n : Int) != 3) = true := by simp; omega
    simp [c1, l0, tl, c2, c3, c4, c5, c6, ia, x0, d', -load_ptr]
    exact ⟨rfl, m, Upd.refl⟩
end
end Go.Proofs.Ytklhioaokogpdaa
