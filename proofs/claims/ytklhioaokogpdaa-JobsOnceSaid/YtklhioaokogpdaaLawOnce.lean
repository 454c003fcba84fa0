/- The law JobsOnce: called, it comes to true; no condition. -/
import Derived.Test.YtklhioaokogpdaaLawOnceA
namespace Go.Proofs.Ytklhioaokogpdaa
open Go.Ab
theorem st_neq (x : St) (o q : Operand) : binA Try.prog .neq 63 o q (.agg #[.int .u8 (x.s : Nat), .int .i64 x.tried, .int .i64 x.badge, .int .i64 x.since, .int .i64 x.code, .bool x.played]) (.agg #[.int .u8 (x.s : Nat), .int .i64 x.tried, .int .i64 x.badge, .int .i64 x.since, .int .i64 x.code, .bool x.played]) = some (.bool false) := by
  obtain ⟨s, t, b, si, c, p⟩ := x
  simp only
  have hg : (Try.prog).eqGuardType (Try.prog).depth 63 = false := by kernel_rfl
  have hh : (Try.prog).stoodInHeld 63 = false := by kernel_rfl
  have hi : ∀ n : Int, eqA Try.prog 9999 3 (.int .i64 n) (.int .i64 n) = some true := fun n => by
    have : eqA Try.prog (9998 + 1) 3 (.int .i64 n) (.int .i64 n) = some true := by simp [eqA]
    exact this
  have hu : eqA Try.prog 9999 5 (.int .u8 (s : Nat)) (.int .u8 (s : Nat)) = some true := by
    have : eqA Try.prog (9998 + 1) 5 (.int .u8 (s : Nat)) (.int .u8 (s : Nat)) = some true := by simp [eqA]
    exact this
  have hb : eqA Try.prog 9999 4 (.bool p) (.bool p) = some true := by
    have : eqA Try.prog (9998 + 1) 4 (.bool p) (.bool p) = some true := by simp [eqA]
    exact this
  have h3 : eqA Try.prog (9999 + 1) 63 (.agg #[.int .u8 (s : Nat), .int .i64 t, .int .i64 b, .int .i64 si, .int .i64 c, .bool p]) (.agg #[.int .u8 (s : Nat), .int .i64 t, .int .i64 b, .int .i64 si, .int .i64 c, .bool p]) = some true := by
    have a0 : partA Try.prog 5 [.int .u8 (s : Nat), .int .i64 t, .int .i64 b, .int .i64 si, .int .i64 c, .bool p] 0 = some (.int .u8 (s : Nat)) := by simp [partA]
    have a1 : partA Try.prog 3 [.int .u8 (s : Nat), .int .i64 t, .int .i64 b, .int .i64 si, .int .i64 c, .bool p] 1 = some (.int .i64 t) := by simp [partA]
    have a2 : partA Try.prog 3 [.int .u8 (s : Nat), .int .i64 t, .int .i64 b, .int .i64 si, .int .i64 c, .bool p] 2 = some (.int .i64 b) := by simp [partA]
    have a3 : partA Try.prog 3 [.int .u8 (s : Nat), .int .i64 t, .int .i64 b, .int .i64 si, .int .i64 c, .bool p] 3 = some (.int .i64 si) := by simp [partA]
    have a4 : partA Try.prog 3 [.int .u8 (s : Nat), .int .i64 t, .int .i64 b, .int .i64 si, .int .i64 c, .bool p] 4 = some (.int .i64 c) := by simp [partA]
    have a5 : partA Try.prog 4 [.int .u8 (s : Nat), .int .i64 t, .int .i64 b, .int .i64 si, .int .i64 c, .bool p] 5 = some (.bool p) := by simp [partA]
    unfold eqA
    simp [hh, eqFields, hi, hu, hb, a0, a1, a2, a3, a4, a5]
  have h4 : eqA Try.prog 10000 63 (.agg #[.int .u8 (s : Nat), .int .i64 t, .int .i64 b, .int .i64 si, .int .i64 c, .bool p]) (.agg #[.int .u8 (s : Nat), .int .i64 t, .int .i64 b, .int .i64 si, .int .i64 c, .bool p]) = some true := h3
  simp [binA, guardA, hg, h4]
theorem getDi_set (l : List Int) {i k : Nat} (y : Int) (hi : i < l.length) : (l.set i y).getD k 0 = if k = i then y else l.getD k 0 := by
  rw [List.getD_eq_getElem?_getD, List.getD_eq_getElem?_getD, List.getElem?_set]
  by_cases h : k = i
  · subst h; simp [hi]
  · rw [if_neg (Ne.symm h), if_neg h]
/-- what a plan's jobs need, where all is passed -/
theorem Conv.need {ps : List Pj} {js : List Jb} {l : List St} (cv : Conv ps js) (hm : mayP ps = true) {k : Nat} (hk : k < ps.length) (hp : passA (js.getD k Jb.no) l = true) :
    ∀ n ∈ ps[k].needs, 0 ≤ n ∧ n < k ∧ stA l n.toNat = 5 := by
  intro n hn
  have h1 := (mayP_spec hm).2 k hk
  have h2 := h1.2.2.2.2.1 n hn
  refine ⟨h2.1, h2.2, ?_⟩
  unfold passA at hp
  rw [(cv.2 k hk).1, List.all_eq_true] at hp
  have := hp n.toNat (List.mem_map_of_mem hn)
  simpa using this
set_option maxHeartbeats 4000000 in
set_option maxRecDepth 6000 in
theorem once_ev {h : Hp} {v w : Value} {ps : List Pj} {ls : List Sp} (p : PlanR h v ps) (hw : TRow h 4 w ls Sp.cells) (hl : ls.length ≤ 140737488355328) :
    EvA Try.prog 5 [.agg #[v], w] (fun r _ => r = .bool true) h := by
  refine EvA.body Try.func5 rfl (by kernel_rfl) (by simp) ?_
  apply Run.ok
  have hcv := (Row.one p.row.1).1
  have hov := (Row.one p.row.1).2
  simp [hcv, hov]
  have sB : Same h (h ++ [.cells [v] false none]) := Same.new _
  have hB : (h ++ [Blk.cells [v] false none])[h.length]? = some (.cells [v] false none) := by simp
  have hlB : (h ++ [Blk.cells [v] false none]).length = h.length + 1 := by simp
  generalize h ++ [Blk.cells [v] false none] = hb at sB hB hlB ⊢
  have lp : ∀ g, Same hb g → loadA Try.prog 50 (.pointer (some ⟨h.length, 0, none⟩)) g = some (.agg #[v]) := fun g s => by simp [s.at hB]
  have lv : ∀ g, Same hb g → loadA Try.prog 48 (.pointer (some ⟨h.length, 0, none⟩)) g = some v := fun g s => by rw [load_at (s.at hB) (by simp)]; rfl
  refine after_call (works25_ev _) ?_
  rintro r hb ⟨rfl, rfl⟩
  simp [lp _ Same.refl, -load_ptr]
  refine after_call (large_ev (p.same sB)) ?_
  rintro r g1 ⟨⟨bl, rfl⟩, s1⟩
  cases bl with
  | true =>
    simp
    refine after_call (works25_ev _) ?_
    rintro r g2 ⟨rfl, rfl⟩
    simp
  | false =>
    have hwg := hw.same (sB.trans s1)
    have tw := hwg.len (P := Try.prog) (t := 51) (e := 60) (by simp)
    by_cases c200 : (200 : Int) < ls.length
    · simp [tw, c200]
      refine after_call (works25_ev _) ?_
      rintro r g2 ⟨rfl, rfl⟩
      simp
    · simp [tw, c200, lp _ s1, -load_ptr]
      refine after_call (newJ_ev (p.same (sB.trans s1))) ?_
      rintro r g2 ⟨s2, hq⟩
      rcases hq with ⟨hm, b, jv, lvj, js, rfl, m, cv⟩ | ⟨_, rfl⟩
      · have inv0 := new_inv m.wf (fun k hk => by have := (cv.tries hm k hk).1; omega)
        have hnw : ∀ k, k < js.length → ((settle js (List.replicate js.length St.no)).getD k St.no).tried = 0 := by
          intro k hk
          have := settle_at m.wf (List.replicate js.length St.no) (k := k) (by simpa using hk)
          have hg : (List.replicate js.length St.no).getD k St.no = St.no := by rw [List.getD_eq_getElem?_getD, List.getElem?_replicate, if_pos hk]; rfl
          rw [this]
          simp only [stA, hg]
          split <;> rfl
        have hjl := cv.1
        have h24 := (mayP_spec hm).1
        have S2 := s1.trans s2
        have tp := ((p.same sB).same S2).row.len (P := Try.prog) (t := 48) (e := 67) (by simp)
        have hmk : makeSliceA Try.prog 35 (.int .i64 (ps.length : Nat)) (.int .i64 (ps.length : Nat)) g2 = some (.slice (some ⟨g2.length, 0, none⟩) ps.length ps.length, g2 ++ [.cells (List.replicate ps.length (.int .i64 0)) false none]) := by
          rw [makeSlice_of (e := 3) (sz := 1) (by_ := 8) (zs := 1) (zero := [.int .i64 0]) (by simp) (by simp) (by simp), if_pos ⟨by omega, by omega, by omega, rfl, by omega⟩]
          simp [zeros_rep]
        simp [lv _ S2, tp, hmk, -load_ptr]
        have m0 := m.same (Same.new [.cells (List.replicate ps.length (.int .i64 0)) false none])
        have S3 : Same hb (g2 ++ [.cells (List.replicate ps.length (.int .i64 0)) false none]) := S2.trans (Same.new _)
        have W0 : Wr h.length (g2 ++ [.cells (List.replicate ps.length (.int .i64 0)) false none]) 1 (.slice (some ⟨g2.length, 0, none⟩) ps.length ps.length) ps.length ((List.replicate ps.length (0 : Int)).map intV) := by
          refine ⟨by simp, .inr (.inr ⟨g2.length, ps.length, [], none, rfl, ?_, by simp [intV], .inl ⟨Nat.le_refl _, by simp only [capO]; omega⟩⟩)⟩
          have := S2.len; omega
        have hown : ∀ j, ownJ b jv lvj js j → g1.length ≤ j ∧ j < g2.length := fun j hj => m.lo hj
        have hg1 := s1.len
        have hbg2 := S2.len
        have hrb : rbl (Value.slice (some ⟨g2.length, 0, none⟩) ps.length ps.length) = g2.length := rfl
        generalize Value.slice (some ⟨g2.length, 0, none⟩) ps.length ps.length = sv at W0 hrb ⊢
        refine WpA.loop (fun z fr g => ∃ (i : Nat) (L : List St) (cs : List Int), z = ls.length - i ∧ i ≤ ls.length ∧ fr 1 = w ∧ fr 2 = .pointer (some ⟨h.length, 0, none⟩) ∧ fr 5 = .pointer (some ⟨b, 0, none⟩) ∧ fr 7 = sv ∧ fr 8 = .int .i64 (i : Nat) ∧ Same hb g ∧ g2.length < g.length ∧ JM g g1.length b jv lvj js L ∧ Inv js L ∧ Wr h.length g 1 sv ps.length (cs.map intV) ∧ cs.length = ps.length ∧ (∀ k, k < ps.length → (L.getD k St.no).tried = cs.getD k 0 ∧ 0 ≤ cs.getD k 0))
          (k := ls.length) ⟨0, _, _, by simp, by omega, by simp, by simp, by simp, by simp, by simp, S3, by simp, m0, inv0, W0, by simp, fun k hk => by
            rw [hnw k (by omega), List.getD_eq_getElem?_getD, List.getElem?_replicate, if_pos hk]; simp⟩ ?_
        clear W0 m0 S3 hmk tp S2 m hwg tw s2 hnw inv0
        rintro z fr g ⟨i, L, cs, rfl, hi, f1, f2, f5, f7, f8, sm, hgl, M, inv, W, hcl, htr⟩
        apply Run.ok
        have hwg := hw.same (sB.trans sm)
        have tw := hwg.len (P := Try.prog) (t := 51) (e := 60) (by simp)
        by_cases c : i < ls.length
        · have c' : (i : Int) < ls.length := by omega
          have w1 : IntKind.i64.wrap ((i : Int) + 1) = (i : Int) + 1 := wrap_i64 (by omega) (by omega)
          have hLl := inv.len
          simp [f1, f2, f5, f7, f8, tw, c', -load_ptr]
          refine after_call (jlist_ev M) ?_
          rintro wv g3 ⟨A3, s3⟩
          have M3 := M.same s3
          have W3 := W.same s3
          have sm3 := sm.trans s3
          have hw3 := hw.same (sB.trans sm3)
          have ia3 := hw3.ia (P := Try.prog) (t := 51) (e := 60) (by simp) (by simp) c .i64
          have ld3 := hw3.agg (P := Try.prog) (e := 60) (by simp) (by simp) c
          have hk0 : ∀ g', Same hb g' → loadA Try.prog 5 (.pointer (some ⟨rbl w, rof w + i * 4, none⟩)) g' = some (.int .u8 ls[i].kind) := fun g' s => by
            rw [(hw.same (sB.trans s)).cell0 (P := Try.prog) (f := 5) (by simp) c (by omega)]; rfl
          have hk1 : ∀ g', Same hb g' → loadA Try.prog 3 (.pointer (some ⟨rbl w, rof w + i * 4 + 1, none⟩)) g' = some (.int .i64 ls[i].i) := fun g' s => by
            rw [(hw.same (sB.trans s)).cell (P := Try.prog) (f := 3) (j := 1) (by simp) c (by omega)]; rfl
          generalize ls[i] = st at ld3 hk0 hk1
          have hT : ∀ x ∈ L, x.tried ≤ 5 ∧ -5 ≤ x.tried := by
            intro x hx
            obtain ⟨k, hk, rfl⟩ := List.mem_iff_getElem.1 hx
            rw [getD_at L St.no hk]
            have h1 := (inv.tr k hk).1
            have h2 := (cv.tries hm k (by omega)).2
            have h3 := htr k (by omega)
            omega
          have kp := doJ_kept M.wf inv st
          simp [f1, f5, f8, ia3, ld3, -load_ptr]
          refine after_call (jdo_ev M3 st hT) ?_
          rintro r g4 ⟨rfl, M4, u4⟩
          generalize doJ js L st = o at kp M4 ⊢
          obtain ⟨e, L4⟩ := o
          simp only at kp M4 ⊢
          have hlvo : ∀ j, inRow lvj j → g1.length ≤ j ∧ j < g2.length := fun j hj => hown j (.inr (.inr (.inl hj)))
          have sm4 : Same hb g4 := Upd.trans sm3 u4 fun j hj hin => by have := hlvo j hin; omega
          have hL4 := kp.len
          have A4 : Acc g.length g4 6 wv L.length (L.flatMap St.cells) := A3.upd u4 fun j hj hin => by have := (A3.above j hj).1; have := (M.lw.above j hin).2; omega
          have W4 : Wr h.length g4 1 sv ps.length (cs.map intV) := W3.upd u4 fun j hj hin => by
            have h1 := inRow_rbl hj
            have h2 := hlvo j hin
            omega
          have hg3 := s3.len
          have hg4 := u4.len
          -- what has been started is counted
          by_cases d : st.kind = 0 ∧ e = 0
          case' pos =>
            have hat := kp.at_ (by simp [d.1]) d.2
            obtain ⟨n, hn⟩ : ∃ n : Nat, st.i = (n : Int) := ⟨st.i.toNat, by omega⟩
            have hnl : n < ps.length := by omega
            have hnc : n < cs.length := by omega
            have iaq := Row.ia1 (P := Try.prog) (t := 35) (e := 3) W4.row (by simp) (by simp) hnl .i64
            have ldq := Row.ld1 (P := Try.prog) (f := 3) W4.row (by simp) hnl
            rw [List.getElem?_map, List.getElem?_eq_getElem hnc, getD_at cs 0 hnc] at ldq
            simp only [Option.map_some, intV] at ldq
            have hx := htr n hnl
            have hx2 := kp.tried n (by omega)
            rw [if_pos ⟨by simp [d.1], d.2, by omega⟩, hx.1] at hx2
            have hx3 := (kp.inv.tr n (by omega)).1
            have hx4 := (cv.tries hm n (by omega)).2
            obtain ⟨q, hq⟩ : ∃ q, q = cs.getD n 0 := ⟨_, rfl⟩
            rw [← hq] at ldq hx2 hx
            have w2 : IntKind.i64.wrap (q + 1) = q + 1 := wrap_i64 (by omega) (by omega)
            obtain ⟨g5, q1, q2, q3, q4⟩ := W4.store1 (P := Try.prog) (e := 3) (x := .int .i64 (q + 1)) (by simp) rfl hnl
            have hcs : (cs.map intV).set n (.int .i64 (q + 1)) = (cs.set n (q + 1)).map intV := by rw [List.map_set]; rfl
            rw [hcs] at q2
            have d1' : (st.kind == 0) = true := by simp [d.1]
            have d2' : (e == 0) = true := by simp [d.2]
            have k0' := hk0 _ sm4
            have k1' := hk1 _ sm4
            rw [hn] at k1'
            rw [d.1] at k0'
            simp [f1, f5, f7, f8, ia3, k0', d2', k1', iaq, ldq, w2, q1, -load_ptr, -store_ptr]
            have sm5 : Same hb g5 := Upd.trans sm4 q3 fun j hj e => by omega
            have M5 := M4.upd q3 fun j hj e => by have := hown j hj; omega
            have A5 : Acc g.length g5 6 wv L.length (L.flatMap St.cells) := A4.upd q3 fun j hj e => by have := (A4.above j hj).1; omega
            obtain ⟨cs', hcs'⟩ : ∃ cs', cs' = cs.set n (q + 1) := ⟨_, rfl⟩
            have hcl' : cs'.length = ps.length := by rw [hcs']; simpa using hcl
            have htr' : ∀ k, k < ps.length → (L4.getD k St.no).tried = cs'.getD k 0 ∧ 0 ≤ cs'.getD k 0 := by
              intro k hk
              have g1 := kp.tried k (by omega)
              rw [(htr k hk).1] at g1
              have g2 := (htr k hk).2
              rw [g1, hcs', getDi_set cs _ hnc]
              by_cases hkn : k = n
              · subst hkn
                rw [if_pos ⟨by simp [d.1], d.2, by omega⟩, if_pos rfl, ← hq]
                exact ⟨rfl, by omega⟩
              · rw [if_neg (by omega), if_neg hkn]
                exact ⟨by omega, g2⟩
            rw [← hcs'] at q2
            have hg5 : g4.length ≤ g5.length := by omega
            have W5 := q2
          case' neg =>
            have k0' := hk0 _ sm4
            obtain ⟨cs', hcs'⟩ : ∃ cs', cs' = cs := ⟨_, rfl⟩
            obtain ⟨g5, hg5e⟩ : ∃ g5, g5 = g4 := ⟨_, rfl⟩
            have hcl' : cs'.length = ps.length := by rw [hcs']; exact hcl
            have htr' : ∀ k, k < ps.length → (L4.getD k St.no).tried = cs'.getD k 0 ∧ 0 ≤ cs'.getD k 0 := by
              intro k hk
              have g1 := kp.tried k (by omega)
              rw [(htr k hk).1, if_neg (by simp; intro a b; exact absurd ⟨a, b⟩ d)] at g1
              rw [g1, hcs']
              exact ⟨by omega, (htr k hk).2⟩
            have sm5 := sm4
            have M5 := M4
            have A5 := A4
            have W5 := W4
            rw [← hcs'] at W5
            rw [← hg5e] at sm5 M5 A5 W5
            have hg5 : g4.length ≤ g5.length := by rw [hg5e]; exact Nat.le_refl _
            by_cases d1 : st.kind = 0
            case' pos =>
              have d2 : ¬ e = 0 := fun h => d ⟨d1, h⟩
              have d1' : (st.kind == 0) = true := by simp [d1]
              have d2' : (e == 0) = false := by simpa using d2
              simp [f1, f5, f7, f8, ia3, k0', d1, d1', d2', -load_ptr]
            case' neg =>
              have d1' : (st.kind == 0) = false := by simpa using d1
              simp [f1, f5, f7, f8, ia3, k0', d1', -load_ptr]
            all_goals rw [← hg5e]
          all_goals
            refine after_call (jlist_ev M5) ?_
            rintro iv g6 ⟨A6, s6⟩
            simp
            have sm6 := sm5.trans s6
            have hg6 := s6.len
            have M6 := M5.same s6
            have W6 := W5.same s6
            have IT : TRow g6 6 iv L4 St.cells := ⟨A6.row, fun _ _ => rfl⟩
            have WT : TRow g6 6 wv L St.cells := ⟨(A5.same s6).row, fun _ _ => rfl⟩
            have PT := (p.same sB).same sm6
            have lv6 := lv g6 sm6
            have ti := SR_len IT
            refine WpA.loop (fun z fr g => ∃ (k : Nat), z = L4.length - k ∧ k ≤ L4.length ∧ fr 1 = w ∧ fr 2 = .pointer (some ⟨h.length, 0, none⟩) ∧ fr 5 = .pointer (some ⟨b, 0, none⟩) ∧ fr 7 = sv ∧ fr 8 = .int .i64 (i : Nat) ∧ fr 9 = wv ∧ fr 10 = .int .i64 e ∧ fr 11 = iv ∧ fr 12 = .int .i64 (k : Nat) ∧ g = g6)
              (k := L4.length) ⟨0, by simp, by omega, by simp [f1], by simp [f2], by simp [f5], by simp [f7], by simp [f8], by simp, by simp, by simp, by simp, rfl⟩ ?_
            clear f1 f2 f5 f7 f8
            rintro z fr g' ⟨k, rfl, hk, f1, f2, f5, f7, f8, f9, f10, f11, f12, rfl⟩
            apply Run.ok
            by_cases ck : k < L4.length
            case' pos =>
              have ck' : (k : Int) < L4.length := by omega
              have wk : IntKind.i64.wrap ((k : Int) + 1) = (k : Int) + 1 := wrap_i64 (by omega) (by omega)
              have hkL : k < L.length := by omega
              have hkp : k < ps.length := by omega
              have iai := SR_ia IT ck
              have iaw := SR_ia WT hkL
              have agi := SR_ag IT ck
              have agw := SR_ag WT hkL
              have ci0 := SR_c0 IT ck
              have ci1 := SR_c1 IT ck
              have cw0 := SR_c0 WT hkL
              have ias := Row.ia1 (P := Try.prog) (t := 35) (e := 3) W6.row (by simp) (by simp) hkp .i64
              have lds := Row.ld1 (P := Try.prog) (f := 3) W6.row (by simp) hkp
              rw [List.getElem?_map, List.getElem?_eq_getElem (by omega), getD_at cs' 0 (by omega)] at lds
              simp only [Option.map_some, intV] at lds
              have iap := PT.row.ia (P := Try.prog) (t := 48) (e := 67) (by simp) (by simp) hkp .i64
              have ld6 := PT.row.cell (P := Try.prog) (f := 3) (j := 6) (by simp) hkp (by omega)
              have ld1 := PT.row.cell (P := Try.prog) (f := 35) (j := 1) (by simp) hkp (by omega)
              simp only [Pj.cells, List.getElem?_cons_succ, List.getElem?_cons_zero] at ld6 ld1
              have hnd := PT.nr _ (List.getElem_mem hkp)
              have hbn := p.big.2 _ (List.getElem_mem hkp)
              have hneed := fun hh => Conv.need cv hm hkp (l := L4) hh
              have htri := (cv.2 k hkp).2.1
              have hpas := kp.inv.pass k ck
              have hstk := kp.inv.st k ck
              have htrk := (kp.inv.tr k ck).1
              have ht4 := htr' k hkp
              have hend := kp.ended k
              have hsam := kp.same
              rw [ht4.1] at ci1 htrk
              rw [htri] at htrk
              generalize ps[k] = y at ld6 ld1 hnd hneed htrk hbn
              generalize hq0 : cs'.getD k 0 = q0 at ci1 lds htrk
              have hgt : ¬ y.tries < q0 := by omega
              have hsam' : e ≠ 0 → L4.getD k St.no = L.getD k St.no := fun hh => by rw [hsam hh]
              have hend' := hend
              rw [stA_cells] at agi agw
              generalize L4.getD k St.no = x4 at agi hend' hsam'
              generalize L.getD k St.no = x0 at agw hend' hsam'
              generalize stA L4 k = s4 at ci0 hpas hstk
              have lv7 := lv6
              obtain ⟨gx, hgx⟩ : ∃ gx, gx = g' := ⟨_, rfl⟩
              simp [f11, f12, ti, ck']
              refine WpA.drawnT [0, 1, 2, 3, 4, 5, 6, 7, 8, 9, 10, 11, 12, 13, 14, 15, 16, 17, 18, 19, 20, 21, 22, 23, 24, 25, 26, 27, 28, 29, 30, 31, 32, 33, 34, 35, 36, 37, 38, 39, 40, 41, 42, 43, 44, 45] [[], [], [], [], [], [], [], [], [0, 1, 2, 3, 4, 5, 6, 7]] [[], [0], [0, 1], [0, 1, 2], [0, 1, 2], [0, 1, 2, 3, 4], [0, 1, 2, 3, 4, 5], [0, 1, 2, 3, 4, 5, 6], [0, 1, 2, 3, 4, 5, 6, 7], [0, 1, 2, 3, 4, 5, 6, 7, 8], [0, 1, 2, 3, 4, 5, 6, 7, 8, 9], [0, 1, 2, 3, 4, 5, 6, 7, 8, 9, 10], [0, 1, 2, 3, 4, 5, 6, 7, 8, 9, 10], [0, 1, 2, 3, 4, 5, 6, 7, 8, 9, 10, 11, 12], [0, 1, 2, 3, 4, 5, 6, 7, 8, 9, 10, 11, 12, 13], [0, 1, 2, 3, 4, 5, 6, 7, 8, 9, 10], [0, 1, 2, 3, 4, 5, 6, 7, 8, 9, 10], [0, 1, 2, 3, 4, 5, 6, 7, 8, 9, 10, 15, 16], [0, 1, 2, 3, 4, 5, 6, 7, 8, 9, 10, 15, 16, 17], [0, 1, 2, 3, 4, 5, 6, 7, 8, 9, 10, 11, 12, 13, 14, 15, 16, 17, 18], [0, 1, 2, 3, 4, 5, 6, 7, 8, 9, 10, 11, 12, 13, 14, 15, 16, 17, 18, 19], [0, 1, 2, 3, 4, 5, 6, 7, 8, 9, 10, 11, 12, 13, 14, 15, 16, 17, 18, 19, 20], [0, 1, 2, 3, 4, 5, 6, 7, 8, 9, 10, 11, 12, 13, 14, 15, 16, 17, 18, 19, 20, 21], [0, 1, 2, 3, 4, 5, 6, 7, 8, 9, 10, 11, 12, 13, 14, 15, 16, 17, 18, 19, 20, 21], [0, 1, 2, 3, 4, 5, 6, 7, 8, 9, 10, 11, 12, 13, 14, 15, 16, 17, 18, 19, 20, 21, 22, 23], [0, 1, 2, 3, 4, 5, 6, 7, 8, 9, 10, 11, 12, 13, 14, 15, 16, 17, 18, 19, 20, 21, 22, 23, 24], [0, 1, 2, 3, 4, 5, 6, 7, 8, 9, 10, 11, 12, 13, 14, 15, 16, 17, 18, 19, 20, 21, 22, 23, 24, 25], [0, 1, 2, 3, 4, 5, 6, 7, 8, 9, 10, 11, 12, 13, 14, 15, 16, 17, 18, 19, 20, 21], [0, 1, 2, 3, 4, 5, 6, 7, 8, 9, 10, 11, 12, 13, 14, 15, 16, 17, 18, 19, 20, 21], [0, 1, 2, 3, 4, 5, 6, 7, 8, 9, 10, 11, 12, 13, 14, 15, 16, 17, 18, 19, 20, 21, 27, 28], [0, 1, 2, 3, 4, 5, 6, 7, 8, 9, 10, 11, 12, 13, 14, 15, 16, 17, 18, 19, 20, 21, 27, 28, 29], [0, 1, 2, 3, 4, 5, 6, 7, 8, 9, 10, 11, 12, 13, 14, 15, 16, 17, 18, 19, 20, 21, 22, 23, 24, 25, 26, 27, 28, 29, 30], [0, 1, 2, 3, 4, 5, 6, 7, 8, 9, 10, 11, 12, 13, 14, 15, 16, 17, 18, 19, 20, 21, 22, 23, 24, 25, 26, 27, 28, 29, 30, 31], [0, 1, 2, 3, 4, 5, 6, 7, 8, 9, 10, 11, 12, 13, 14, 15, 16, 17, 18, 19, 20, 21, 22, 23, 24, 25, 26, 27, 28, 29, 30, 31, 32], [0, 1, 2, 3, 4, 5, 6, 7, 8, 9, 10, 11, 12, 13, 14, 15, 16, 17, 18, 19, 20, 21, 22, 23, 24, 25, 26, 27, 28, 29, 30, 31, 32, 33], [0, 1, 2, 3, 4, 5, 6, 7, 8, 9, 10, 11, 12, 13, 14, 15, 16, 17, 18, 19, 20, 21, 22, 23, 24, 25, 26, 27, 28, 29, 30, 31, 32, 33], [0, 1, 2, 3, 4, 5, 6, 7, 8, 9, 10, 11, 12, 13, 14, 15, 16, 17, 18, 19, 20, 21, 22, 23, 24, 25, 26, 27, 28, 29, 30, 31, 32, 33, 34, 35], [0, 1, 2, 3, 4, 5, 6, 7, 8, 9, 10, 11, 12, 13, 14, 15, 16, 17, 18, 19, 20, 21, 22, 23, 24, 25, 26, 27, 28, 29, 30, 31, 32, 33, 34, 35, 36], [0, 1, 2, 3, 4, 5, 6, 7, 8, 9, 10, 11, 12, 13, 14, 15, 16, 17, 18, 19, 20, 21, 22, 23, 24, 25, 26, 27, 28, 29, 30, 31, 32, 33], [0, 1, 2, 3, 4, 5, 6, 7, 8, 9, 10, 11, 12, 13, 14, 15, 16, 17, 18, 19, 20, 21, 22, 23, 24, 25, 26, 27, 28, 29, 30, 31, 32, 33, 38], [0, 1, 2, 3, 4, 5, 6, 7, 8, 9, 10, 11, 12, 13, 14, 15, 16, 17, 18, 19, 20, 21, 22, 23, 24, 25, 26, 27, 28, 29, 30, 31, 32, 33], [0, 1, 2, 3, 4, 5, 6, 7, 8, 9, 10, 11, 12, 13, 14, 15, 16, 17, 18, 19, 20, 21, 22, 23, 24, 25, 26, 27, 28, 29, 30, 31, 32, 33, 38, 39, 40], [0, 1, 2, 3, 4, 5, 6, 7, 8, 9, 10, 11, 12, 13, 14, 15, 16, 17, 18, 19, 20, 21, 22, 23, 24, 25, 26, 27, 28, 29, 30, 31, 32, 33, 38, 39, 40, 41], [0, 1, 2, 3, 4, 5, 6, 7, 8, 9, 10, 11, 12, 13, 14, 15, 16, 17, 18, 19, 20, 21, 22, 23, 24, 25, 26, 27, 28, 29, 30, 31, 32, 33, 38, 39, 40, 41, 42], [0, 1, 2, 3, 4, 5, 6, 7, 8, 9, 10, 11, 12, 13, 14, 15, 16, 17, 18, 19, 20, 21, 22, 23, 24, 25, 26, 27, 28, 29, 30, 31, 32, 33, 34, 35, 36, 37, 38, 39, 40, 41, 42, 43], [0, 1, 2, 3, 4, 5, 6, 7, 8, 9, 10, 11, 12, 13, 14, 15, 16, 17, 18, 19, 20, 21, 22, 23, 24, 25, 26, 27, 28, 29, 30, 31, 32, 33, 34, 35, 36, 37, 38, 39, 40, 41, 42, 43, 44]] (by kernel_rfl) (by decide +kernel) (by decide +kernel) (by decide +kernel) ?_
              by_cases he : e = 0
              case' pos =>
                have he' : (e != 0) = false := by simp [he]
                simp [f2, f7, f9, f10, f11, f12, he', iaw, cw0, -load_ptr]
                refine after_call (ended_ev (stA L k) _) ?_
                rintro r g7 ⟨rfl, rfl⟩
                rcases Bool.eq_false_or_eq_true (endS (stA L k)) with hen | hen
                case' inl =>
                  have hxx := hend' hen
                  subst hxx
                  simp [f2, f7, f9, f10, f11, f12, hen, iai, iaw, cw0, agi, agw, st_neq, ci1, ias, lds, lv7, iap, ld6, hgt, -load_ptr]
                case' inr =>
                  have hen' : endS (stA L k) = false := hen
                  simp [f2, f7, f9, f10, f11, f12, hen', iai, iaw, cw0, ci1, ias, lds, lv7, iap, ld6, hgt, -load_ptr]
              case' neg =>
                have he' : (e != 0) = true := by simpa using he
                have hxx := hsam' he
                subst hxx
                simp [f2, f7, f9, f10, f11, f12, he', iai, iaw, agi, agw, st_neq, ci1, ias, lds, lv7, iap, ld6, hgt, -load_ptr]
              all_goals
                have hs6 : s4 = 3 ∨ s4 = 4 ∨ s4 = 5 ∨ s4 = 6 ∨ s4 = 2 ∨ (¬ s4 = 3 ∧ ¬ s4 = 4 ∧ ¬ s4 = 5 ∧ ¬ s4 = 6 ∧ ¬ s4 = 2) := by omega
                rcases hs6 with hs | hs | hs | hs | hs | ⟨h3, h4, h5, h6, h2⟩
                case' inr.inr.inr.inr.inr =>
                  have h3' : ((s4 : Int) == 3) = false := by simp; omega
                  have h4' : ((s4 : Int) == 4) = false := by simp; omega
                  have h5' : ((s4 : Int) == 5) = false := by simp; omega
                  have h6' : ((s4 : Int) == 6) = false := by simp; omega
                  have h2' : ((s4 : Int) == 2) = false := by simp; omega
                  simp [f11, f12, iai, ci0, h3', h4', h5', h6', h2', wk, -load_ptr, -roundQ_normal, ↓rq]
                  refine stop_intro ⟨L4.length - (k + 1), by omega, k + 1, rfl, by omega, by simp [f1], by simp [f2], by simp [f5], by simp [f7], by simp [f8], by simp [f9], by simp [f10], by simp [f11], by simp, rfl⟩
                all_goals
                  subst hs
                  have hnd7 := hneed (hpas (by omega) (by omega))
                  have tn7 := hnd.len (P := Try.prog) (t := 35) (e := 3) (by simp)
                  simp [f2, f11, f12, iai, ci0, lv7, iap, ld1, tn7, -load_ptr]
                  refine WpA.loop (fun z fr g => ∃ (q : Nat), z = y.needs.length - q ∧ q ≤ y.needs.length ∧ fr 1 = w ∧ fr 2 = .pointer (some ⟨h.length, 0, none⟩) ∧ fr 5 = .pointer (some ⟨b, 0, none⟩) ∧ fr 7 = sv ∧ fr 8 = .int .i64 (i : Nat) ∧ fr 9 = wv ∧ fr 10 = .int .i64 e ∧ fr 11 = iv ∧ fr 12 = .int .i64 (k : Nat) ∧ fr 157 = y.nv ∧ fr 158 = .int .i64 (y.needs.length : Nat) ∧ fr 159 = .int .i64 (q : Nat) ∧ g = gx)
                    (k := y.needs.length) ⟨0, by simp, by omega, by simp [f1], by simp [f2], by simp [f5], by simp [f7], by simp [f8], by simp [f9], by simp [f10], by simp [f11], by simp [f12], by simp, by simp, by simp, hgx.symm⟩ ?_
                  clear f1 f2 f5 f7 f8 f9 f10 f11 f12
                  rintro z fr g' ⟨q, rfl, hq, f1, f2, f5, f7, f8, f9, f10, f11, f12, f157, f158, f159, rfl⟩
                  subst hgx
                  apply Run.ok
                  by_cases cq : q < y.needs.length
                  · have cq' : (q : Int) < y.needs.length := by omega
                    have wq : IntKind.i64.wrap ((q : Int) + 1) = (q : Int) + 1 := wrap_i64 (by omega) (by omega)
                    have iaq := hnd.ia1 (P := Try.prog) (t := 35) (e := 3) (by simp) (by simp) cq .i64
                    have ldq := hnd.ld1 (P := Try.prog) (f := 3) (by simp) cq
                    rw [List.getElem?_map, List.getElem?_eq_getElem cq] at ldq
                    simp only [Option.map_some, intV] at ldq
                    have hqn := hnd7 _ (List.getElem_mem cq)
                    generalize y.needs[q] = x at ldq hqn
                    obtain ⟨n, rfl⟩ : ∃ n : Nat, x = (n : Int) := ⟨x.toNat, by omega⟩
                    rw [Int.toNat_natCast] at hqn
                    have hnl : n < L4.length := by omega
                    have ian := SR_ia IT hnl
                    have cn0 := SR_c0 IT hnl
                    rw [hqn.2.2] at cn0
                    simp [f1, f2, f5, f7, f8, f9, f10, f11, f12, f157, f158, f159, cq', iaq, ldq, ian, cn0, wq, -load_ptr, -roundQ_normal, ↓rq]
                    refine stop_intro ⟨y.needs.length - (q + 1), by omega, q + 1, rfl, by omega, by simp [f1], by simp [f2], by simp [f5], by simp [f7], by simp [f8], by simp [f9], by simp [f10], by simp [f11], by simp [f12], by simp [f157], by simp [f158], by simp, rfl⟩
                  · have cq' : ¬ (q : Int) < y.needs.length := by omega
                    simp [f12, f158, f159, cq', wk, -load_ptr, -roundQ_normal, ↓rq]
                    refine stop_intro ⟨L4.length - (k + 1), by omega, k + 1, rfl, by omega, by simp [f1], by simp [f2], by simp [f5], by simp [f7], by simp [f8], by simp [f9], by simp [f10], by simp [f11], by simp, rfl⟩
            case' neg =>
              have ck' : ¬ (k : Int) < L4.length := by omega
              simp [f8, f11, f12, ti, ck', w1, -load_ptr, -roundQ_normal, ↓rq]
              refine stop_intro ⟨ls.length - (i + 1), by omega, i + 1, L4, cs', rfl, by omega, by simp [f1], by simp [f2], by simp [f5], by simp [f7], by simp, sm6, by omega, M6, kp.inv, W6, hcl', htr'⟩
        · have c' : ¬ (i : Int) < ls.length := by omega
          simp [f1, f8, tw, c']
      · simp
theorem jobsOnce_ev (h : Hp) (vs : List Value) (dts : List Dt) (hr : RepAll Try.prog h 6 [50, 51] vs dts) : EvA Try.prog 5 vs (fun r _ => r = .bool true) h := by
  obtain ⟨a, vs, e, ds, rfl, rfl, h1, hr⟩ := hr.cons
  obtain ⟨b, vs, e, ds, rfl, rfl, h2, hr⟩ := hr.cons
  rw [hr.nil]
  obtain ⟨v, ps, rfl, p⟩ := planV h1
  obtain ⟨ls, l1, l2⟩ := stepsV25 h2
  exact once_ev p l1 l2
end Go.Proofs.Ytklhioaokogpdaa
