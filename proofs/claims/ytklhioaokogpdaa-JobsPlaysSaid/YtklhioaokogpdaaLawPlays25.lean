/- The law JobsPlays: called, it comes to true; no condition. -/
import Derived.Test.YtklhioaokogpdaaBoth25
import Derived.Test.YtklhioaokogpdaaCopied25
namespace Go.Proofs.Ytklhioaokogpdaa
open Go.Ab
set_option maxHeartbeats 4000000 in
set_option maxRecDepth 6000 in
theorem plays25_ev {h : Hp} {v w : Value} {ps : List Pj} {ls : List Sp} (now : Int) (p : PlanR h v ps) (hw : TRow h 4 w ls Sp.cells) (hl : ls.length ≤ 140737488355328) :
    EvA Try.prog 12 [.agg #[v], w, .int .i64 now] (fun r _ => r = .bool true) h := by
  refine EvA.body Try.func12 rfl (by kernel_rfl) (by simp) ?_
  apply Run.ok
  have hcv := (Row.one p.row.1).1
  have hov := (Row.one p.row.1).2
  simp [hcv, hov]
  have sB : Same h (h ++ [.cells [v] false none]) := Same.new _
  have hB : (h ++ [Blk.cells [v] false none])[h.length]? = some (.cells [v] false none) := by simp
  have hlB : (h ++ [Blk.cells [v] false none]).length = h.length + 1 := by simp
  generalize h ++ [Blk.cells [v] false none] = hb at sB hB hlB ⊢
  have lp : ∀ g, Same hb g → loadA Try.prog 50 (.pointer (some ⟨h.length, 0, none⟩)) g = some (.agg #[v]) := fun g s => by simp [s.at hB]
  have pb := p.same sB
  refine after_call (large2_ev pb) ?_
  rintro r g1 ⟨⟨bl, rfl, hbl⟩, s1⟩
  cases bl with
  | true => simp
  | false =>
    have hbig := hbl rfl
    have hwg := hw.same (sB.trans s1)
    have tw := hwg.len (P := Try.prog) (t := 51) (e := 60) (by simp)
    by_cases c0 : (100 : Int) < ls.length
    · simp [tw, c0]
    · simp [tw, c0, lp _ s1, -load_ptr]
      refine after_call (copiedW_ev (pb.same s1) hbig) ?_
      rintro r g2 ⟨s2, v', qs, rfl, P2, hkey, Q2⟩
      have hc' := (Row.one P2.row.1).1
      have ho' := (Row.one P2.row.1).2
      obtain ⟨W2, D2⟩ := Q2.open
      have hlenB : ∀ q, (fun q => (qs.getD q Pj.no).needs.length) q ≤ 140737488355328 := fun q => by
        rcases Nat.lt_or_ge q qs.length with hq | hq
        · have hmem : qs.getD q Pj.no ∈ qs := by rw [← getD_at qs Pj.no hq]; exact List.getElem_mem _
          have := P2.big.2 _ hmem
          show (qs.getD q Pj.no).needs.length ≤ _
          omega
        · have : qs.getD q Pj.no = Pj.no := by rw [List.getD_eq_getElem?_getD, List.getElem?_eq_none hq]; rfl
          show (qs.getD q Pj.no).needs.length ≤ _
          rw [this]; simp [Pj.no]
      generalize (fun q => (qs.getD q Pj.no).nv) = nv at W2 D2
      generalize (fun q => (qs.getD q Pj.no).needs.length) = len at W2 hlenB
      have hmc := mayP_congr hkey
      simp [hc', ho', spl, -load_ptr]
      have s3 : Same g2 (g2 ++ [.cells [v'] false none]) := Same.new _
      have h3 : (g2 ++ [Blk.cells [v'] false none])[g2.length]? = some (.cells [v'] false none) := by simp
      have hl3 : (g2 ++ [Blk.cells [v'] false none]).length = g2.length + 1 := by simp
      generalize g2 ++ [Blk.cells [v'] false none] = g3 at s3 h3 hl3 ⊢
      have lq : ∀ g, g[g2.length]? = some (.cells [v'] false none) → loadA Try.prog 50 (.pointer (some ⟨g2.length, 0, none⟩)) g = some (.agg #[v']) := fun g hg => by simp [hg]
      have lqj : ∀ g, g[g2.length]? = some (.cells [v'] false none) → loadA Try.prog 48 (.pointer (some ⟨g2.length, 0, none⟩)) g = some v' := fun g hg => by rw [load_at hg (by simp)]; rfl
      have S3 := (s1.trans s2).trans s3
      simp [lq _ h3, -load_ptr]
      refine after_call (newJ_ev (P2.same s3)) ?_
      rintro r g4 ⟨s4, hq⟩
      have S4 := S3.trans s4
      rcases hq with ⟨hmq, b, jv, lv, js, rfl, m, cvq⟩ | ⟨hmq, rfl⟩
      · have hm : mayP ps = true := by rw [← hmc]; exact hmq
        have cv := cvq.congr hkey.symm
        have h24 := (mayP_spec hm).1
        simp [lp _ S4, -load_ptr]
        refine after_call (rnew25_ev (pb.same S4) cv) ?_
        rintro r g5 ⟨s5, hq5⟩
        rcases hq5 with ⟨hm5, _⟩ | ⟨_, c, rv, rfl, R⟩
        · rw [hm] at hm5; cases hm5
        have good := Good.new m.wf (fun k hk => by have := (cv.tries hm k hk).1; omega)
        generalize settle js (List.replicate js.length St.no) = l at m R good
        have hqn : qs.length = ps.length := by have := congrArg List.length hkey; simpa using this
        have hg1 := s1.len
        have hg2 := s2.len
        have hg4 := s4.len
        have W5 := (((PlanW.upd W2 s3 (fun _ _ h => h) (fun _ _ _ _ h => h)).upd s4 (fun _ _ h => h) (fun _ _ _ _ h => h))).upd s5 (fun _ _ h => h) (fun _ _ _ _ h => h)
        have hMo : ∀ j, ownJ b jv lv js j → g3.length ≤ j ∧ j < g4.length := fun j hj => m.lo hj
        have hRo : ∀ j, ownR c rv j → g4.length ≤ j := fun j hj => (R.lo hj).1
        have hd : ∀ j, ownJ b jv lv js j → ¬ ownR c rv j := fun j hj hr => by have := hMo j hj; have := hRo j hr; omega
        have h5 := s5.at (s4.at h3)
        have m5 := m.same s5
        have S5 := S4.trans s5
        simp
        refine WpA.loop (fun z fr g => ∃ (i : Nat), z = qs.length - i ∧ i ≤ qs.length ∧ fr 1 = w ∧ fr 2 = .int .i64 now ∧ fr 3 = .pointer (some ⟨h.length, 0, none⟩) ∧ fr 7 = .pointer (some ⟨g2.length, 0, none⟩) ∧ fr 8 = .pointer (some ⟨b, 0, none⟩) ∧ fr 10 = .pointer (some ⟨c, 0, none⟩) ∧ fr 12 = .int .i64 (i : Nat) ∧
            Same hb g ∧ g[g2.length]? = some (.cells [v'] false none) ∧ PlanW g g1.length v' qs.length nv len ∧ JM g g3.length b jv lv js l ∧ RJ g g4.length c v rv l)
          (k := qs.length) ⟨0, by simp, by omega, by simp, by simp, by simp, by simp, by simp, by simp, by simp, S5, h5, W5, m5, R⟩ ?_
        clear W5 m5 S5 h5 W2
        rintro z fr g ⟨i, rfl, hi, f1, f2, f3, f7, f8, f10, f12, sm, hbx, W, M, RR⟩
        apply Run.ok
        have lj := lqj _ hbx
        have tq := W.tlen
        have keep : ∀ {g g' : Hp}, Upd (fun j => g1.length ≤ j ∧ j < g2.length) g g' → Same hb g → g[g2.length]? = some (.cells [v'] false none) → JM g g3.length b jv lv js l → RJ g g4.length c v rv l → Same hb g' ∧ g'[g2.length]? = some (.cells [v'] false none) ∧ JM g' g3.length b jv lv js l ∧ RJ g' g4.length c v rv l := fun u a b' d e =>
          ⟨Upd.trans a u fun j hj hin => by omega, u.at b' (by omega), d.upd u fun j hj hin => by have := hMo j hj; omega, e.upd u fun j hj hin => by have := hRo j hj; omega⟩
        by_cases d : i < qs.length
        · have d' : (i : Int) < qs.length := by omega
          have w1 : IntKind.i64.wrap ((i : Int) + 1) = (i : Int) + 1 := wrap_i64 (by omega) (by omega)
          simp [f1, f2, f3, f7, f8, f10, f12, lj, tq, d', -load_ptr]
          have hlb := hlenB i
          refine WpA.loop (fun z fr g' => ∃ (q : Nat), z = len i - q ∧ q ≤ len i ∧ fr 1 = w ∧ fr 2 = .int .i64 now ∧ fr 3 = .pointer (some ⟨h.length, 0, none⟩) ∧ fr 7 = .pointer (some ⟨g2.length, 0, none⟩) ∧ fr 8 = .pointer (some ⟨b, 0, none⟩) ∧ fr 10 = .pointer (some ⟨c, 0, none⟩) ∧ fr 12 = .int .i64 (i : Nat) ∧ fr 13 = .int .i64 (q : Nat) ∧
            Same hb g' ∧ g'[g2.length]? = some (.cells [v'] false none) ∧ PlanW g' g1.length v' qs.length nv len ∧ JM g' g3.length b jv lv js l ∧ RJ g' g4.length c v rv l)
            (k := len i) ⟨0, by simp, by omega, by simp [f1], by simp [f2], by simp [f3], by simp [f7], by simp [f8], by simp [f10], by simp [f12], by simp, sm, hbx, W, M, RR⟩ ?_
          clear f1 f2 f3 f7 f8 f10 f12 sm hbx W M RR lj tq
          rintro z fr g ⟨q, rfl, hq, f1, f2, f3, f7, f8, f10, f12, f13, sm, hbx, W, M, RR⟩
          apply Run.ok
          have lj := lqj _ hbx
          have tq := W.tlen
          have iq := W.ia d
          have ln := W.ln d
          have nl := W.nlen d
          by_cases e : q < len i
          · have e' : (q : Int) < len i := by omega
            have wq : IntKind.i64.wrap ((q : Int) + 1) = (q : Int) + 1 := wrap_i64 (by omega) (by omega)
            have ni := W.nia d e
            obtain ⟨g', q1, W', u'⟩ := W.need D2 d e 99
            obtain ⟨k1, k2, k3, k4⟩ := keep u' sm hbx M RR
            simp [f1, f2, f3, f7, f8, f10, f12, f13, lj, iq, ln, nl, ni, e', q1, wq, -load_ptr, -store_ptr, -roundQ_normal, ↓rq]
            refine stop_intro ⟨len i - (q + 1), by omega, q + 1, rfl, by omega, by simp [f1], by simp [f2], by simp [f3], by simp [f7], by simp [f8], by simp [f10], by simp [f12], by simp, k1, k2, W', k3, k4⟩
          · have e' : ¬ (q : Int) < len i := by omega
            obtain ⟨g', q1, W', u'⟩ := W.tries D2 d 99
            obtain ⟨k1, k2, k3, k4⟩ := keep u' sm hbx M RR
            simp [f1, f2, f3, f7, f8, f10, f12, f13, lj, iq, ln, nl, e', q1, w1, -load_ptr, -store_ptr, -roundQ_normal, ↓rq]
            refine stop_intro ⟨qs.length - (i + 1), by omega, i + 1, rfl, by omega, by simp [f1], by simp [f2], by simp [f3], by simp [f7], by simp [f8], by simp [f10], by simp, k1, k2, W', k3, k4⟩
        · have d' : ¬ (i : Int) < qs.length := by omega
          simp [f1, f2, f3, f7, f8, f10, f12, lj, tq, d', -load_ptr]
          clear keep tq lj W hbx f7 f12 d d'
          have cvp := cv
          refine WpA.loop (fun z fr g => ∃ (i b : Nat) (jv lv : Value) (js : List Jb) (l : List St), z = ls.length - i ∧ i ≤ ls.length ∧ fr 1 = w ∧ fr 2 = .int .i64 now ∧ fr 3 = .pointer (some ⟨h.length, 0, none⟩) ∧ fr 8 = .pointer (some ⟨b, 0, none⟩) ∧ fr 10 = .pointer (some ⟨c, 0, none⟩) ∧ fr 14 = .int .i64 (i : Nat) ∧
              Same hb g ∧ JM g hb.length b jv lv js l ∧ RJ g hb.length c v rv l ∧ Good js l ∧ Conv ps js ∧ ∀ j, ownJ b jv lv js j → ¬ ownR c rv j)
            (k := ls.length) ⟨0, b, jv, lv, js, l, by simp, by omega, by simp [f1], by simp [f2], by simp [f3], by simp [f8], by simp [f10], by simp, sm, M.down (by omega), ⟨RR.at_, by have := RR.kc; omega, Acc.down (by omega) RR.rw, RR.ne⟩, good, cv, hd⟩ ?_
          clear f1 f2 f3 f8 f10 sm M RR hd hMo hRo good R m cv cvp cvq
          clear b jv lv js l
          rintro z fr g ⟨i, b, jv, lv, js, l, rfl, hi, f1, f2, f3, f8, f10, f14, sm, M, R, good, cv, hd⟩
          apply Run.ok
          have hwg := hw.same (sB.trans sm)
          have tw := hwg.len (P := Try.prog) (t := 51) (e := 60) (by simp)
          by_cases d : i < ls.length
          · have d' : (i : Int) < ls.length := by omega
            have w1 : IntKind.i64.wrap ((i : Int) + 1) = (i : Int) + 1 := wrap_i64 (by omega) (by omega)
            have ia := hwg.ia (P := Try.prog) (t := 51) (e := 60) (by simp) (by simp) d .i64
            have ld := hwg.agg (P := Try.prog) (e := 60) (by simp) (by simp) d
            have hk0 : ∀ g', Same hb g' → loadA Try.prog 5 (.pointer (some ⟨rbl w, rof w + i * 4, none⟩)) g' = some (.int .u8 ls[i].kind) := fun g' s => by
              rw [(hw.same (sB.trans s)).cell0 (P := Try.prog) (f := 5) (by simp) d (by omega)]; rfl
            generalize ls[i] = st at ld hk0
            simp [f1, f2, f3, f8, f10, f14, tw, d', ia, ld, -load_ptr]
            refine after_call (both_ev M R pb sm (Nat.le_refl _) (Nat.le_refl _) hm cv good hd st) ?_
            rintro r g6 ⟨rfl, M6, R6, u6⟩
            have good6 := actJ_good M.wf good st
            generalize (actJ js l st).2 = L at M6 R6 good6
            have sm6 : Same hb g6 := Upd.trans sm u6 fun j hj hin => by
              rcases hin with h1 | h1
              · have := (M.lw.above j h1).1; omega
              · have := (R.rw.above j h1).1; omega
            have k6 := hk0 _ sm6
            -- the end of a round
            have fin : ∀ {g' : Hp} {b' : Nat} {jv' lv' : Value} {js' : List Jb}, Same hb g' → JM g' hb.length b' jv' lv' js' L → RJ g' hb.length c v rv L → Good js' L → Conv ps js' → (∀ j, ownJ b' jv' lv' js' j → ¬ ownR c rv j) →
                EvA Try.prog 50 [.pointer (some ⟨b', 0, none⟩), .pointer (some ⟨c, 0, none⟩), .int .i64 now] (fun r h' => r = .bool true ∧ Same hb h' ∧ JM h' hb.length b' jv' lv' js' L ∧ RJ h' hb.length c v rv L) g' := fun s M' R' gd cv' hd' =>
              EvA.mono (stands_ev M' R' (pb.same s) cv' (gd.own fun k hk => (cv'.tries hm k hk).2).2 (cv'.limits hm) now) fun r h' ⟨a, b⟩ => ⟨a, s.trans b, M'.same b, R'.same b⟩
            by_cases c7 : st.kind = 7
            · simp [f1, f14, ia, k6, c7, f8, -load_ptr]
              refine after_call (jcopy_ev M6) ?_
              rintro r g7 ⟨s7, b', jv', lv', rfl, M7, hfr⟩
              have N7 := M6.same s7
              have R7 := R6.same s7
              simp [f8]
              refine after_call (jcancel_ev N7 0) ?_
              rintro r g8 ⟨rfl, N8, u8⟩
              have good8 := cancelJ_good N7.wf good6 0
              simp [f8]
              refine after_call (jstart_ev N8 0 9 9 (good8.T5 cv hm)) ?_
              rintro r g9 ⟨rfl, N9, u9⟩
              have u79 := Upd.trans u8 u9 (fun _ _ h => h)
              have hlo : ∀ j, inRow lv j → hb.length ≤ j ∧ j < g6.length := fun j hj => M6.lw.above j hj
              have M9 := M7.upd u79 fun j hj hin => by
                rcases hj with h1 | h1 | h1 | ⟨y, hy, h1⟩
                · have := hfr j (.inl h1); have := (hlo j hin).2; omega
                · have := hfr j (.inr (.inl h1)); have := (hlo j hin).2; omega
                · have := hfr j (.inr (.inr h1)); have := (hlo j hin).2; omega
                · exact (M6.dj j hin).2.2 y hy h1
              have R9 := R7.upd u79 fun j hj hin => hd j (.inr (.inr (.inl hin))) hj
              have sm9 : Same hb g9 := Upd.trans (sm6.trans s7) u79 fun j hj hin => by have := (hlo j hin).1; omega
              have hd9 : ∀ j, ownJ b' jv' lv' js j → ¬ ownR c rv j := fun j hj hr => by
                have hrl := (R6.lo hr).2
                rcases hj with h1 | h1 | h1 | ⟨y, hy, h1⟩
                · have := hfr j (.inl h1); omega
                · have := hfr j (.inr (.inl h1)); omega
                · have := hfr j (.inr (.inr h1)); omega
                · exact hd j (.inr (.inr (.inr ⟨y, hy, h1⟩))) hr
              simp [f10, f2]
              refine after_call (fin sm9 M9 R9 good6 cv hd9) ?_
              rintro r g10 ⟨rfl, S10, M10, R10⟩
              simp [f14, w1, -roundQ_normal, ↓rq]
              refine stop_intro ⟨ls.length - (i + 1), by omega, i + 1, b', jv', lv', js, L, rfl, by omega, by simp [f1], by simp [f2], by simp [f3], by simp, by simp [f10], by simp, S10, M10, R10, good6, cv, hd9⟩
            · have c7' : (st.kind == 7) = false := by simpa using c7
              by_cases c8 : st.kind = 8
              · simp [f1, f3, f14, ia, k6, c8, f8, lp _ sm6, -load_ptr]
                refine after_call (copied_ev (pb.same sm6) hbig) ?_
                rintro r g7 ⟨s7, v7, qs7, rfl, P7, hkey7⟩
                have M7 := M6.same s7
                have hown := good6.own fun k hk => (cv.tries hm k hk).2
                simp [f8]
                refine after_call (jbytes_ev M7 hown.2) ?_
                rintro bv g8 ⟨B8, s8⟩
                have P8 := P7.same s8
                have hbl := stsB_len L hown.2
                have hL24 := M7.l24
                simp
                refine after_call (jload_ev P8 (Acc.row B8) (by omega)) ?_
                rintro r g9 ⟨s9, hq9⟩
                have hm7 : mayP qs7 = true := by rw [mayP_congr hkey7]; exact hm
                have s69 := (s7.trans s8).trans s9
                rcases hq9 with ⟨hmf, _⟩ | ⟨_, js', cv7, ⟨b', jv', lv', L', hI, rfl, M9⟩ | ⟨hno, rfl⟩⟩
                · rw [hm7] at hmf; cases hmf
                · have cv' := cv7.congr hkey7.symm
                  have hLL := hI.eq (hown.1.congr cv cv')
                  subst hLL
                  have good9 := good6.congr cv cv'
                  have hg8 : hb.length ≤ g8.length := ((sm6.trans s7).trans s8).len
                  have R9 := R6.same s69
                  have hd9 : ∀ j, ownJ b' jv' lv' js' j → ¬ ownR c rv j := fun j hj hr => by
                    have h1 := (R6.lo hr).2
                    have h2 := (M9.lo hj).1
                    have h3 := (s7.trans s8).len
                    omega
                  simp [f10, f2]
                  refine after_call (fin (sm6.trans s69) (M9.down hg8) R9 good9 cv' hd9) ?_
                  rintro r g10 ⟨rfl, S10, M10, R10⟩
                  simp [f14, w1, -roundQ_normal, ↓rq]
                  refine stop_intro ⟨ls.length - (i + 1), by omega, i + 1, b', jv', lv', js', L', rfl, by omega, by simp [f1], by simp [f2], by simp [f3], by simp, by simp [f10], by simp, S10, M10, R10, good9, cv', hd9⟩
                · exact absurd (hown.1.congr cv (cv7.congr hkey7.symm)) (hno L)
              · have c8' : (st.kind == 8) = false := by simpa using c8
                simp [f1, f14, ia, k6, c7', c8', f8, f10, f2, -load_ptr]
                refine after_call (fin sm6 M6 R6 good6 cv hd) ?_
                rintro r g10 ⟨rfl, S10, M10, R10⟩
                simp [f14, w1, -roundQ_normal, ↓rq]
                refine stop_intro ⟨ls.length - (i + 1), by omega, i + 1, b, jv, lv, js, L, rfl, by omega, by simp [f1], by simp [f2], by simp [f3], by simp [f8], by simp [f10], by simp, S10, M10, R10, good6, cv, hd⟩
          · have d' : ¬ (i : Int) < ls.length := by omega
            simp [f1, f14, tw, d', -load_ptr]
      · have hm' : mayP ps = false := by rw [← hmc]; exact hmq
        simp [lp _ S4, -load_ptr]
        refine after_call (rnew25_ev (pb.same S4) (Conv.self ps)) ?_
        rintro r g5 ⟨s5, hq5⟩
        rcases hq5 with ⟨_, rfl⟩ | ⟨hm5, _⟩
        · simp
        · rw [hm'] at hm5; cases hm5
theorem jobsPlays_ev (h : Hp) (vs : List Value) (dts : List Dt) (hr : RepAll Try.prog h 6 [50, 51, 3] vs dts) : EvA Try.prog 12 vs (fun r _ => r = .bool true) h := by
  obtain ⟨a, vs, e, ds, rfl, rfl, h1, hr⟩ := hr.cons
  obtain ⟨b, vs, e, ds, rfl, rfl, h2, hr⟩ := hr.cons
  obtain ⟨c, vs, e, ds, rfl, rfl, h3, hr⟩ := hr.cons
  rw [hr.nil]
  obtain ⟨v, ps, rfl, p⟩ := planV h1
  obtain ⟨ls, l3, l4⟩ := stepsV25 h2
  obtain ⟨n, rfl, _⟩ := h3.int (q := .i64) (by simp)
  exact plays25_ev n p l3 l4
end Go.Proofs.Ytklhioaokogpdaa
