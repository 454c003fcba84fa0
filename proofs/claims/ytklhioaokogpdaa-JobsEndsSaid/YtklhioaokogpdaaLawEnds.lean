/- The law JobsEnds: called, it comes to true; no condition. -/
import Derived.Test.YtklhioaokogpdaaLawOnceA
import Derived.Test.YtklhioaokogpdaaPEnds
namespace Go.Proofs.Ytklhioaokogpdaa
open Go.Ab
theorem Moved.T5 {js : List Jb} {ps : List Pj} {l : List St} (cv : Conv ps js) (hm : mayP ps = true) (inv : Inv js l) (hn : ∀ k, k < l.length → 0 ≤ (l.getD k St.no).tried) : ∀ x ∈ l, x.tried ≤ 5 ∧ -5 ≤ x.tried := by
  intro x hx
  obtain ⟨k, hk, rfl⟩ := List.mem_iff_getElem.1 hx
  rw [getD_at l St.no hk]
  have h1 := (inv.tr k hk).1
  have h2 := (cv.tries hm k (by have := inv.len; omega)).2
  have h3 := hn k hk
  omega
theorem tot_congr {f g : Nat → Int} : ∀ n, (∀ k, k < n → f k = g k) → tot f n = tot g n := by
  intro n
  induction n with
  | zero => intro _; rfl
  | succ n ih => intro h; simp only [tot]; rw [ih fun k hk => h k (by omega), h n (by omega)]
set_option maxHeartbeats 4000000 in
set_option maxRecDepth 6000 in
theorem ends25_ev {h : Hp} {v w u : Value} {ps : List Pj} {ls : List Sp} {cb : List UInt8} (p : PlanR h v ps) (hw : TRow h 4 w ls Sp.cells) (hl : ls.length ≤ 140737488355328) (hu : Row h 1 u cb.length (cb.map byteV)) (hcl : cb.length ≤ 140737488355328) :
    EvA Try.prog 6 [.agg #[v], w, u] (fun r _ => r = .bool true) h := by
  refine EvA.body Try.func6 rfl (by kernel_rfl) (by simp) ?_
  apply Run.ok
  have hcv := (Row.one p.row.1).1
  have hov := (Row.one p.row.1).2
  simp [hcv, hov]
  have sB : Same h (h ++ [.cells [v] false none]) := Same.new _
  have hB : (h ++ [Blk.cells [v] false none])[h.length]? = some (.cells [v] false none) := by simp
  have hlB : (h ++ [Blk.cells [v] false none]).length = h.length + 1 := by simp
  generalize h ++ [Blk.cells [v] false none] = hb at sB hB hlB ⊢
  have lp : ∀ g, Same hb g → loadA Try.prog 50 (.pointer (some ⟨h.length, 0, none⟩)) g = some (.agg #[v]) := fun g s => by simp [s.at hB]
  have lv : ∀ g, Same hb g → loadA Try.prog 48 (.pointer (some ⟨h.length, 0, none⟩)) g = some v := fun g s => by rw [load_at (s.at hB) (by simp)]; rfl
  refine after_call (works25_ev _) ?_
  rintro r hb ⟨rfl, rfl⟩
  simp [lp _ Same.refl, -load_ptr]
  refine after_call (large_ev (p.same sB)) ?_
  rintro r g1 ⟨⟨bl, rfl⟩, s1⟩
  cases bl with
  | true =>
    simp
    refine after_call (works25_ev _) ?_
    rintro r g2 ⟨rfl, rfl⟩
    simp
  | false =>
    have hwg := hw.same (sB.trans s1)
    have tw := hwg.len (P := Try.prog) (t := 51) (e := 60) (by simp)
    by_cases c100 : (100 : Int) < ls.length
    · simp [tw, c100]
      refine after_call (works25_ev _) ?_
      rintro r g2 ⟨rfl, rfl⟩
      simp
    · simp [tw, c100, lp _ s1, -load_ptr]
      refine after_call (newJ_ev (p.same (sB.trans s1))) ?_
      rintro r g2 ⟨s2, hq⟩
      rcases hq with ⟨hm, b, jv, lvj, js, rfl, m, cv⟩ | ⟨_, rfl⟩
      · have inv0 := new_inv m.wf (fun k hk => by have := (cv.tries hm k hk).1; omega)
        have hnw : ∀ k, k < (settle js (List.replicate js.length St.no)).length → 0 ≤ ((settle js (List.replicate js.length St.no)).getD k St.no).tried := by
          intro k hk
          rw [settle_len, List.length_replicate] at hk
          have := settle_at m.wf (List.replicate js.length St.no) (k := k) (by simpa using hk)
          have hg : (List.replicate js.length St.no).getD k St.no = St.no := by rw [List.getD_eq_getElem?_getD, List.getElem?_replicate, if_pos hk]; rfl
          rw [this]
          simp only [stA, hg]
          split <;> exact Int.le_refl 0
        have hjl := cv.1
        have h24 := (mayP_spec hm).1
        have S2 := s1.trans s2
        have hg1 := s1.len
        have hbg2 := S2.len
        have hlo := fun j hj => m.lo (j := j) hj
        have hT5 := fun k hk => cv.tries hm k hk
        simp
        generalize settle js (List.replicate js.length St.no) = L0 at m inv0 hnw
        -- how often all may be tried
        refine WpA.loop (fun z fr g => ∃ (i : Nat), z = ps.length - i ∧ i ≤ ps.length ∧ fr 1 = w ∧ fr 2 = u ∧ fr 3 = .pointer (some ⟨h.length, 0, none⟩) ∧ fr 7 = .pointer (some ⟨b, 0, none⟩) ∧ fr 9 = .int .i64 (tot (fun k => (js.getD k Jb.no).tries) i) ∧ fr 10 = .int .i64 (i : Nat) ∧ g = g2)
          (k := ps.length) ⟨0, by simp, by omega, by simp, by simp, by simp, by simp, by simp [tot], by simp, rfl⟩ ?_
        rintro z fr g ⟨i, rfl, hi, f1, f2, f3, f7, f9, f10, rfl⟩
        apply Run.ok
        have PT := (p.same sB).same S2
        have tp := PT.row.len (P := Try.prog) (t := 48) (e := 67) (by simp)
        have lv2 := lv _ S2
        have htot := fun n (hn : n ≤ js.length) => tot_five n (f := fun k => (js.getD k Jb.no).tries) fun k hk => by have := hT5 k (by omega); omega
        by_cases ci : i < ps.length
        · have ci' : (i : Int) < ps.length := by omega
          have wi : IntKind.i64.wrap ((i : Int) + 1) = (i : Int) + 1 := wrap_i64 (by omega) (by omega)
          have iap := PT.row.ia (P := Try.prog) (t := 48) (e := 67) (by simp) (by simp) ci .i64
          have ld6 := PT.row.cell (P := Try.prog) (f := 3) (j := 6) (by simp) ci (by omega)
          simp only [Pj.cells, List.getElem?_cons_succ, List.getElem?_cons_zero] at ld6
          rw [← (cv.2 i ci).2.1] at ld6
          have ht1 := htot i (by omega)
          have ht2 := hT5 i (by omega)
          have hts : tot (fun k => (js.getD k Jb.no).tries) (i + 1) = tot (fun k => (js.getD k Jb.no).tries) i + (js.getD i Jb.no).tries := rfl
          generalize tot (fun k => (js.getD k Jb.no).tries) i = ti at f9 ht1 hts
          generalize (js.getD i Jb.no).tries = tr at ld6 ht2 hts
          have wt : IntKind.i64.wrap (ti + tr) = ti + tr := wrap_i64 (by omega) (by omega)
          simp [f1, f2, f3, f7, f9, f10, lv2, tp, ci', iap, ld6, wi, wt, -load_ptr, -roundQ_normal, ↓rq]
          refine stop_intro ⟨ps.length - (i + 1), by omega, i + 1, rfl, by omega, by simp [f1], by simp [f2], by simp [f3], by simp [f7], by rw [hts]; simp, by simp, rfl⟩
        · have ci' : ¬ (i : Int) < ps.length := by omega
          have hip : i = js.length := by omega
          subst hip
          obtain ⟨most, hmost⟩ : ∃ q, q = tot (fun k => (js.getD k Jb.no).tries) js.length := ⟨_, rfl⟩
          have hm5 := htot js.length (Nat.le_refl _)
          rw [← hmost] at f9 hm5
          simp [f1, f2, f3, f7, f9, f10, lv2, tp, ci', -load_ptr]
          -- the steps ahead
          refine WpA.loop (fun z fr g => ∃ (i : Nat) (L : List St), z = ls.length - i ∧ i ≤ ls.length ∧ fr 1 = w ∧ fr 2 = u ∧ fr 3 = .pointer (some ⟨h.length, 0, none⟩) ∧ fr 7 = .pointer (some ⟨b, 0, none⟩) ∧ fr 9 = .int .i64 most ∧ fr 11 = .int .i64 (i : Nat) ∧ Same hb g ∧ JM g g1.length b jv lvj js L ∧ Inv js L ∧ (∀ k, k < L.length → 0 ≤ (L.getD k St.no).tried))
            (k := ls.length) ⟨0, L0, by simp, by omega, by simp [f1], by simp [f2], by simp [f3], by simp [f7], by simp [f9], by simp, S2, m, inv0, hnw⟩ ?_
          clear f1 f2 f3 f7 f9 f10 inv0 hnw PT tp lv2 hi ci ci' tw hwg
          rintro z fr g ⟨i, L, rfl, hi, f1, f2, f3, f7, f9, f11, sm, M, inv, hnn⟩
          apply Run.ok
          have hwg := hw.same (sB.trans sm)
          have tw := hwg.len (P := Try.prog) (t := 51) (e := 60) (by simp)
          have hlvo : ∀ j, inRow lvj j → g1.length ≤ j := fun j hj => (hlo j (.inr (.inr (.inl hj)))).1
          by_cases c : i < ls.length
          · have c' : (i : Int) < ls.length := by omega
            have wi : IntKind.i64.wrap ((i : Int) + 1) = (i : Int) + 1 := wrap_i64 (by omega) (by omega)
            have ia3 := hwg.ia (P := Try.prog) (t := 51) (e := 60) (by simp) (by simp) c .i64
            have ld3 := hwg.agg (P := Try.prog) (e := 60) (by simp) (by simp) c
            generalize ls[i] = st at ld3
            have kp := doJ_kept M.wf inv st
            simp [f1, f2, f3, f7, f9, f11, tw, c', ia3, ld3, -load_ptr]
            refine after_call (jdo_ev M st (Moved.T5 cv hm inv hnn)) ?_
            rintro r g4 ⟨rfl, M4, u4⟩
            generalize doJ js L st = o at kp M4 ⊢
            obtain ⟨e, L4⟩ := o
            simp only at kp M4 ⊢
            have sm4 : Same hb g4 := Upd.trans sm u4 fun j hj hin => by have := hlvo j hin; omega
            simp [f1, f2, f3, f7, f9, f11, wi, -roundQ_normal, ↓rq]
            refine stop_intro ⟨ls.length - (i + 1), by omega, i + 1, L4, rfl, by omega, by simp [f1], by simp [f2], by simp [f3], by simp [f7], by simp [f9], by simp, sm4, M4, kp.inv, fun k hk => ?_⟩
            rw [kp.tried k (by rw [← kp.len]; exact hk)]
            have := hnn k (by rw [← kp.len]; exact hk)
            split <;> omega
          · have c' : ¬ (i : Int) < ls.length := by omega
            simp [f1, f2, f3, f7, f9, f11, tw, c']
            have hLl := inv.len
            have hle := leftA_le inv hnn
            have hop := openA_le inv hnn
            rw [hLl, ← hmost] at hle hop
            -- the rounds
            refine WpA.loop (fun z fr g => ∃ (rd st : Nat) (L : List St), (z : Int) = 2 * most + 2 * js.length + 1 - rd ∧ fr 2 = u ∧ fr 3 = .pointer (some ⟨h.length, 0, none⟩) ∧ fr 7 = .pointer (some ⟨b, 0, none⟩) ∧ fr 9 = .int .i64 most ∧ fr 12 = .int .i64 (st : Nat) ∧ fr 13 = .int .i64 (rd : Nat) ∧ Same hb g ∧ JM g g1.length b jv lvj js L ∧ Inv js L ∧ (∀ k, k < L.length → 0 ≤ (L.getD k St.no).tried) ∧ leftA js L + rd ≤ 2 * most + 2 * js.length ∧ (st : Int) + openA js L ≤ most)
              (k := (2 * most + 2 * js.length + 1).toNat) ⟨0, 0, L, by omega, by simp [f2], by simp [f3], by simp [f7], by simp [f9], by simp, by simp, sm, M, inv, hnn, by omega, by omega⟩ ?_
            clear f1 f2 f3 f7 f9 f11 hle hop hnn inv M sm hi c c' tw hwg hLl
            rintro z fr g ⟨rd, st, L, hz, f2, f3, f7, f9, f12, f13, sm, M, inv, hnn, hle, hop⟩
            apply Run.ok
            have lvg := lv _ sm
            have tpg := ((p.same sB).same sm).row.len (P := Try.prog) (t := 48) (e := 67) (by simp)
            have hl0 := leftA_nn inv
            have ho0 := openA_nn inv
            have hLl := inv.len
            have w1 : IntKind.i64.wrap (2 * most) = 2 * most := wrap_i64 (by omega) (by omega)
            have w2 : IntKind.i64.wrap (2 * (ps.length : Int)) = 2 * (ps.length : Int) := wrap_i64 (by omega) (by omega)
            have w3 : IntKind.i64.wrap (2 * most + 2 * (ps.length : Int)) = 2 * most + 2 * (ps.length : Int) := wrap_i64 (by omega) (by omega)
            have hrd : (rd : Int) ≤ 2 * most + 2 * (ps.length : Int) := by omega
            simp [f2, f3, f7, f9, f12, f13, lvg, tpg, w1, w2, w3, hrd, -load_ptr]
            refine after_call (jover_ev M) ?_
            rintro r g3 ⟨rfl, s3⟩
            have M3 := M.same s3
            have sm3 := sm.trans s3
            cases hov : overJ L with
            | true =>
              simp [f7]
              refine after_call (jover_ev M3) ?_
              rintro r g4 ⟨rfl, s4⟩
              rw [hov]
              have hst : (st : Int) ≤ most := by omega
              simp [f7, f9, f12, hst]
              refine after_call (jready_ev (M3.same s4)) ?_
              rintro r g5 ⟨A5, s5⟩
              have hpk : picks (fun _ x => decide (x.s = 3)) L L.length = [] := by
                unfold picks
                rw [List.map_eq_nil_iff, List.filter_eq_nil_iff]
                intro k hk
                have hk' : k < L.length := by simpa using hk
                unfold overJ at hov
                rw [List.all_eq_true] at hov
                have := hov L[k] (List.getElem_mem _)
                rw [← getD_at L St.no hk']
                simp only [endS, Bool.and_eq_true, decide_eq_true_eq] at this
                simp; omega
              rw [hpk] at A5
              have t5 := A5.row.len (P := Try.prog) (t := 35) (e := 3) (by simp)
              simp [t5]
            | false =>
              simp [f7]
              refine after_call (jlist_ev M3) ?_
              rintro iv g4 ⟨A4, s4⟩
              have M4 := M3.same s4
              have sm4 := sm3.trans s4
              have hact : ∃ k, k < L.length ∧ (stA L k = 2 ∨ stA L k = 3 ∨ stA L k = 4) := by
                apply Classical.byContradiction
                intro hno
                have hall := some_active M.wf inv fun k hk hh => hno ⟨k, hk, hh⟩
                have : overJ L = true := by
                  unfold overJ
                  rw [List.all_eq_true]
                  intro x hx
                  obtain ⟨k, hk, rfl⟩ := List.mem_iff_getElem.1 hx
                  have := hall k hk
                  unfold stA at this
                  rw [← getD_at L St.no hk] at this
                  exact this
                rw [hov] at this; cases this
              have hg4 := (s3.trans s4).len
              have hgb := (M.lo (.inl rfl)).2
              have hA4 : ∀ j, inRow iv j → g3.length ≤ j := fun j hj => (A4.above j hj).1
              have hlvg : ∀ j, inRow lvj j → j < g.length := fun j hj => (M.lw.above j hj).2
              have hg3 := s3.len
              simp
              refine WpA.loop (fun z fr g => ∃ (k st' : Nat) (Q : List St), z = L.length - k ∧ k ≤ L.length ∧ fr 2 = u ∧ fr 3 = .pointer (some ⟨h.length, 0, none⟩) ∧ fr 7 = .pointer (some ⟨b, 0, none⟩) ∧ fr 9 = .int .i64 most ∧ fr 12 = .int .i64 (st' : Nat) ∧ fr 13 = .int .i64 (rd : Nat) ∧ fr 14 = iv ∧ fr 15 = .int .i64 (k : Nat) ∧ Same hb g ∧ Acc g3.length g 6 iv L.length (L.flatMap St.cells) ∧ JM g g1.length b jv lvj js Q ∧ Inv js Q ∧ (∀ k, k < Q.length → 0 ≤ (Q.getD k St.no).tried) ∧ (∀ q, k ≤ q → stA L q ≠ 1 → Q.getD q St.no = L.getD q St.no) ∧ leftA js Q ≤ leftA js L ∧ ((∃ q, q < k ∧ (stA L q = 2 ∨ stA L q = 3 ∨ stA L q = 4)) → leftA js Q + 1 ≤ leftA js L) ∧ (st' : Int) + openA js Q ≤ most)
                (k := L.length) ⟨0, st, L, by simp, by omega, by simp [f2], by simp [f3], by simp [f7], by simp [f9], by simp [f12], by simp [f13], by simp, by simp, sm4, A4, M4, inv, hnn, fun _ _ _ => rfl, Int.le_refl _, fun ⟨q, hq, _⟩ => by omega, hop⟩ ?_
              clear f2 f3 f7 f9 f12 f13 A4 M4 sm4 s4 hg4 M3 sm3 lvg tpg
              rintro z fr g5 ⟨k, st', Q, rfl, hk, f2, f3, f7, f9, f12, f13, f14, f15, sm5, A5, M5, inv5, hnn5, hstay, hle5, hlt5, hop5⟩
              apply Run.ok
              have IT : TRow g5 6 iv L St.cells := ⟨A5.row, fun _ _ => rfl⟩
              have ti := SR_len IT
              have ho5 := openA_nn inv5
              have hQl := inv5.len
              by_cases ck : k < L.length
              · have ck' : (k : Int) < L.length := by omega
                have wk : IntKind.i64.wrap ((k : Int) + 1) = (k : Int) + 1 := wrap_i64 (by omega) (by omega)
                have hkQ : k < Q.length := by omega
                have iak := SR_ia IT ck
                have ck0 := SR_c0 IT ck
                have ck2 := SR_c2 IT ck
                have hsk := hstay k (Nat.le_refl _)
                have hstQ : stA L k ≠ 1 → stA Q k = stA L k := fun h1 => by unfold stA; rw [hsk h1]
                have hcur := (hu.same (sB.trans sm5))
                have tu := hcur.len (P := Try.prog) (t := 22) (e := 5) (by simp)
                -- what is kept behind an act
                have next : ∀ (Q' : List St) (c d : Int), Moved js Q Q' k c d → 1 ≤ c → (∀ q, k + 1 ≤ q → stA L q ≠ 1 → Q'.getD q St.no = L.getD q St.no) ∧ leftA js Q' ≤ leftA js L ∧ ((∃ q, q < k + 1 ∧ (stA L q = 2 ∨ stA L q = 3 ∨ stA L q = 4)) → leftA js Q' + 1 ≤ leftA js L) := by
                  intro Q' c d mv hc
                  have := mv.left
                  refine ⟨fun q hq h1 => ?_, by omega, fun _ => by omega⟩
                  have h2 := hstay q (by omega) h1
                  rw [mv.stay q (by omega) (by unfold stA; rw [h2]; exact h1), h2]
                obtain ⟨cd, hcd, hcode⟩ : ∃ cd : Nat, cd ≤ 255 ∧ ((0 < cb.length ∧ ∃ q : Nat, ((k : Int) + (rd : Int)).tmod (cb.length : Int) = (q : Int) ∧ (q : Int) < cb.length ∧ indexAddrA Try.prog 22 u (.int .i64 (q : Int)) = some (.pointer (some ⟨rbl u, rof u + q, none⟩)) ∧ loadA Try.prog 5 (.pointer (some ⟨rbl u, rof u + q, none⟩)) g5 = some (.int .u8 (cd : Nat))) ∨ (¬ 0 < cb.length ∧ cd = 0)) := by
                  by_cases c0 : 0 < cb.length
                  · have hq : (k + rd) % cb.length < cb.length := Nat.mod_lt _ c0
                    have ia := hcur.ia1 (P := Try.prog) (t := 22) (e := 5) (by simp) (by simp) hq .i64
                    have ld := hcur.ld1 (P := Try.prog) (f := 5) (by simp) hq
                    rw [List.getElem?_map, List.getElem?_eq_getElem hq] at ld
                    refine ⟨(cb[(k + rd) % cb.length]).toNat, by have := (cb[(k + rd) % cb.length]).toNat_lt; omega, .inl ⟨c0, (k + rd) % cb.length, ?_, by omega, ia, ld⟩⟩
                    rw [Int.tmod_eq_emod_of_nonneg (by omega), show (k : Int) + (rd : Int) = ((k + rd : Nat) : Int) by omega]
                    exact (Int.natCast_emod _ _).symm
                  · exact ⟨0, by omega, .inr ⟨c0, rfl⟩⟩
                have wcd : IntKind.i64.wrap (cd : Int) = (cd : Int) := wrap_i64 (by omega) (by omega)
                have wkr : IntKind.i64.wrap ((k : Int) + (rd : Int)) = (k : Int) + (rd : Int) := wrap_i64 (by omega) (by omega)
                have hs4 : stA L k = 2 ∨ stA L k = 4 ∨ stA L k = 3 ∨ (¬ stA L k = 2 ∧ ¬ stA L k = 4 ∧ ¬ stA L k = 3) := by omega
                rcases hs4 with hs | hs | hs | ⟨h2, h4, h3⟩
                · rw [hs] at ck0
                  obtain ⟨Q', he, mv⟩ := play_moved M5.wf inv5 hkQ (by rw [hstQ (by omega)]; exact hs)
                  rcases hcode with ⟨c0, q, htm, hq, iaq, ldq⟩ | ⟨c0, hcd0⟩
                  case' inl =>
                    have c0' : (0 : Int) < cb.length := by omega
                    have hcb : cb ≠ [] := fun hh => by rw [hh] at c0; simp at c0
                    have wq : IntKind.i64.wrap (q : Int) = (q : Int) := wrap_i64 (by omega) (by omega)
                    simp [f2, f7, f12, f13, f14, f15, ti, ck', tu, c0, c0', hcb, wkr, htm, wq, iaq, ldq, wcd, iak, ck0, hs, -load_ptr]
                  case' inr =>
                    have c0' : ¬ (0 : Int) < cb.length := by omega
                    simp [f2, f7, f12, f13, f14, f15, ti, ck', tu, c0, c0', iak, ck0, hs, -load_ptr]
                  all_goals
                    refine after_call (jplay_ev M5 (k : Int)) ?_
                    rintro r g6 ⟨rfl, M6, u6⟩
                    rw [he] at M6 ⊢
                    simp only at M6 ⊢
                    have sm6 : Same hb g6 := Upd.trans sm5 u6 fun j hj hin => by have := hlvo j hin; omega
                    have A6 : Acc g3.length g6 6 iv L.length (L.flatMap St.cells) := A5.upd u6 fun j hj hin => by have := hA4 j hj; have := hlvg j hin; omega
                    obtain ⟨n1, n2, n3⟩ := next _ _ _ mv (by omega)
                    have hop6 := mv.op
                    simp [f2, f3, f7, f9, f12, f13, f14, f15, wk, -roundQ_normal, ↓rq]
                    refine stop_intro ⟨L.length - (k + 1), by omega, k + 1, st', Q', rfl, by omega, by simp [f2], by simp [f3], by simp [f7], by simp [f9], by simp [f12], by simp [f13], by simp [f14], by simp, sm6, A6, M6, mv.inv, mv.nn hnn5, n1, n2, n3, by omega⟩
                · rw [hs] at ck0
                  have hq4 : stA Q k = 4 := by rw [hstQ (by omega)]; exact hs
                  obtain ⟨Q', he, mv⟩ := end_moved M5.wf inv5 hkQ hq4 (num := (cd : Int)) (by omega)
                  rw [hsk (by omega)] at he
                  obtain ⟨bg, hbg⟩ : ∃ bg, bg = (L.getD k St.no).badge := ⟨_, rfl⟩
                  rw [← hbg] at he ck2
                  rcases hcode with ⟨c0, q, htm, hq, iaq, ldq⟩ | ⟨c0, hcd0⟩
                  case' inl =>
                    have c0' : (0 : Int) < cb.length := by omega
                    have hcb : cb ≠ [] := fun hh => by rw [hh] at c0; simp at c0
                    have wq : IntKind.i64.wrap (q : Int) = (q : Int) := wrap_i64 (by omega) (by omega)
                    simp [f2, f7, f12, f13, f14, f15, ti, ck', tu, c0, c0', hcb, wkr, htm, wq, iaq, ldq, wcd, iak, ck0, ck2, -load_ptr]
                  case' inr =>
                    have c0' : ¬ (0 : Int) < cb.length := by omega
                    have hcd0' : (cd : Int) = 0 := by omega
                    rw [hcd0'] at he
                    simp [f2, f7, f12, f13, f14, f15, ti, ck', tu, c0, c0', iak, ck0, ck2, -load_ptr]
                  all_goals
                    refine after_call (jend_ev M5 (k : Int) _ _) ?_
                    rintro r g6 ⟨rfl, M6, u6⟩
                    rw [he] at M6 ⊢
                    simp only at M6 ⊢
                    have sm6 : Same hb g6 := Upd.trans sm5 u6 fun j hj hin => by have := hlvo j hin; omega
                    have A6 : Acc g3.length g6 6 iv L.length (L.flatMap St.cells) := A5.upd u6 fun j hj hin => by have := hA4 j hj; have := hlvg j hin; omega
                    obtain ⟨n1, n2, n3⟩ := next _ _ _ mv (by omega)
                    have hop6 := mv.op
                    simp [f2, f3, f7, f9, f12, f13, f14, f15, wk, -roundQ_normal, ↓rq]
                    refine stop_intro ⟨L.length - (k + 1), by omega, k + 1, st', Q', rfl, by omega, by simp [f2], by simp [f3], by simp [f7], by simp [f9], by simp [f12], by simp [f13], by simp [f14], by simp, sm6, A6, M6, mv.inv, mv.nn hnn5, n1, n2, n3, by omega⟩
                · rw [hs] at ck0
                  have hq3 : stA Q k = 3 := by rw [hstQ (by omega)]; exact hs
                  have ht3 := (inv5.tr k hkQ).2 (by omega)
                  have hop1 : 1 ≤ openA js Q := by
                    have h0 : tot (fun _ => 0) Q.length = 0 := by
                      generalize Q.length = n
                      induction n with
                      | zero => rfl
                      | succ n ih => simp only [tot, ih]; rfl
                    have := tot_lt (f := fun _ => 0) (g := fun k => (js.getD k Jb.no).tries - (Q.getD k St.no).tried) (c := 1) Q.length k hkQ (by omega) fun q hq _ => by have := (inv5.tr q hq).1; omega
                    rw [h0] at this; unfold openA; omega
                  have hmst : (st' : Int) + 1 ≤ most := by omega
                  obtain ⟨Q1, he1, mv1, hq14, hq1b⟩ := start_moved inv5 hkQ hq3 (badge := 1000 + ((st' + 1 : Nat) : Int)) (now := (rd : Int)) (by omega) (by omega)
                  have hkQ1 : k < Q1.length := by rw [mv1.len]; exact hkQ
                  obtain ⟨Q', he, mv2⟩ := end_moved M5.wf mv1.inv hkQ1 hq14 (num := (cd : Int)) (by omega)
                  rw [hq1b] at he
                  have mv := mv1.trans mv2
                  have ws1 : IntKind.i64.wrap ((st' : Int) + 1) = ((st' + 1 : Nat) : Int) := by rw [wrap_i64 (by omega) (by omega)]; omega
                  have ws2 : IntKind.i64.wrap (1000 + ((st' + 1 : Nat) : Int)) = 1000 + ((st' + 1 : Nat) : Int) := wrap_i64 (by omega) (by omega)
                  obtain ⟨s1, hs1⟩ : ∃ s1 : Nat, s1 = st' + 1 := ⟨_, rfl⟩
                  rw [← hs1] at ws1 ws2 he1 he
                  rcases hcode with ⟨c0, q, htm, hq, iaq, ldq⟩ | ⟨c0, hcd0⟩
                  case' inl =>
                    have c0' : (0 : Int) < cb.length := by omega
                    have hcb : cb ≠ [] := fun hh => by rw [hh] at c0; simp at c0
                    have wq : IntKind.i64.wrap (q : Int) = (q : Int) := wrap_i64 (by omega) (by omega)
                    simp [f2, f7, f12, f13, f14, f15, ti, ck', tu, c0, c0', hcb, wkr, htm, wq, iaq, ldq, wcd, iak, ck0, ws1, ws2, -load_ptr]
                  case' inr =>
                    have c0' : ¬ (0 : Int) < cb.length := by omega
                    have hcd0' : (cd : Int) = 0 := by omega
                    rw [hcd0'] at he
                    simp [f2, f7, f12, f13, f14, f15, ti, ck', tu, c0, c0', iak, ck0, ws1, ws2, -load_ptr]
                  all_goals
                    refine after_call (jstart_ev M5 (k : Int) _ _ (Moved.T5 cv hm inv5 hnn5)) ?_
                    rintro r g7 ⟨rfl, M7, u7⟩
                    rw [he1] at M7 ⊢
                    simp only at M7 ⊢
                    simp [f7, f12, f13, f15, ws1, ws2]
                    refine after_call (jend_ev M7 (k : Int) _ _) ?_
                    rintro r g6 ⟨rfl, M6, u6'⟩
                    have u6 := Upd.trans u7 u6' (fun _ _ h => h)
                    rw [he] at M6 ⊢
                    simp only at M6 ⊢
                    have sm6 : Same hb g6 := Upd.trans sm5 u6 fun j hj hin => by have := hlvo j hin; omega
                    have A6 : Acc g3.length g6 6 iv L.length (L.flatMap St.cells) := A5.upd u6 fun j hj hin => by have := hA4 j hj; have := hlvg j hin; omega
                    obtain ⟨n1, n2, n3⟩ := next _ _ _ mv (by omega)
                    have hop6 := mv.op
                    simp [f2, f3, f7, f9, f12, f13, f14, f15, wk, -roundQ_normal, ↓rq]
                    refine stop_intro ⟨L.length - (k + 1), by omega, k + 1, s1, Q', rfl, by omega, by simp [f2], by simp [f3], by simp [f7], by simp [f9], by simp [f12], by simp [f13], by simp [f14], by simp, sm6, A6, M6, mv.inv, mv.nn hnn5, n1, n2, n3, by omega⟩
                · have h2' : ((stA L k : Int) == 2) = false := by simp; omega
                  have h4' : ((stA L k : Int) == 4) = false := by simp; omega
                  have h3' : ((stA L k : Int) == 3) = false := by simp; omega
                  rcases hcode with ⟨c0, q, htm, hq, iaq, ldq⟩ | ⟨c0, hcd0⟩
                  case' inl =>
                    have c0' : (0 : Int) < cb.length := by omega
                    have hcb : cb ≠ [] := fun hh => by rw [hh] at c0; simp at c0
                    have wq : IntKind.i64.wrap (q : Int) = (q : Int) := wrap_i64 (by omega) (by omega)
                    simp [f2, f7, f12, f13, f14, f15, ti, ck', tu, c0, c0', hcb, wkr, htm, wq, iaq, ldq, wcd, iak, ck0, h2', h4', h3', f3, f9, wk, -roundQ_normal, ↓rq, -load_ptr]
                  case' inr =>
                    have c0' : ¬ (0 : Int) < cb.length := by omega
                    simp [f2, f7, f12, f13, f14, f15, ti, ck', tu, c0, c0', iak, ck0, h2', h4', h3', f3, f9, wk, -roundQ_normal, ↓rq, -load_ptr]
                  all_goals
                    refine stop_intro ⟨L.length - (k + 1), by omega, k + 1, st', Q, rfl, by omega, by simp [f2], by simp [f3], by simp [f7], by simp [f9], by simp [f12], by simp [f13], by simp [f14], by simp, sm5, A5, M5, inv5, hnn5, fun q hq => hstay q (by omega), hle5, fun ⟨q, hq, hh⟩ => hlt5 ⟨q, (by
                      rcases Nat.lt_or_ge q k with h | h
                      · exact h
                      · have : q = k := by omega
                        subst this; omega), hh⟩, hop5⟩
              · have ck' : ¬ (k : Int) < L.length := by omega
                have hlq := hlt5 (by obtain ⟨q, hq, hh⟩ := hact; exact ⟨q, by omega, hh⟩)
                have hlq0 := leftA_nn inv5
                have wr : IntKind.i64.wrap ((rd : Int) + 1) = (rd : Int) + 1 := wrap_i64 (by omega) (by omega)
                simp [f2, f3, f7, f9, f12, f13, f14, f15, ti, ck', wr, -roundQ_normal, ↓rq]
                refine stop_intro ⟨z - 1, by omega, rd + 1, st', Q, by omega, by simp [f2], by simp [f3], by simp [f7], by simp [f9], by simp [f12], by simp, sm5, M5, inv5, hnn5, by omega, hop5⟩
      · simp
theorem jobsEnds_ev (h : Hp) (vs : List Value) (dts : List Dt) (hr : RepAll Try.prog h 6 [50, 51, 22] vs dts) : EvA Try.prog 6 vs (fun r _ => r = .bool true) h := by
  obtain ⟨a, vs, e, ds, rfl, rfl, h1, hr⟩ := hr.cons
  obtain ⟨b, vs, e, ds, rfl, rfl, h2, hr⟩ := hr.cons
  obtain ⟨c, vs, e, ds, rfl, rfl, h3, hr⟩ := hr.cons
  rw [hr.nil]
  obtain ⟨v, ps, rfl, p⟩ := planV h1
  obtain ⟨ls, l1, l2⟩ := stepsV25 h2
  obtain ⟨l, l3, l4⟩ := h3.bytes (e := 5) (by simp) (by simp) (by kernel_rfl)
  exact ends25_ev p l1 l2 (l3.row (by simp)) (Nat.le_trans l4 (by decide))
end Go.Proofs.Ytklhioaokogpdaa
