/- The law ExprValues: called, it comes to true; no condition. -/
import Derived.Test.YtbamofeocfbjbaaLawExprA
namespace Go.Proofs.Ytbamofeocfbjbaa
open Go.Ab Go.Glob
set_option maxHeartbeats 4000000 in
set_option maxRecDepth 6000 in
theorem values11_ev {h : Hp} {W : List Bs} {w : Value} (hw : SRow h w W) (hl : W.length ≤ 140737488355328) (hx : ∀ x ∈ W, x.length ≤ 140737488355328) :
    EvA Try.prog 5 [w] (fun r _ => r = .bool true) h := by
  refine EvA.body Try.func5 rfl (by kernel_rfl) (by simp) ?_
  apply Run.ok
  simp
  refine after_call (large11_ev hw hl hx) ?_
  rintro r h ⟨⟨bl, rfl, hbl⟩, rfl⟩
  cases bl with
  | true => simp
  | false =>
    obtain ⟨hl, hx⟩ := hbl rfl
    have hsz : ∀ x ∈ W, x.length < 1000000000 := fun x hm => by have := hx x hm; omega
    obtain ⟨v3, g1, e1, A1, s01⟩ := litStrs hw (by omega)
    have s1 : Same h g1 := Same.trans (Same.new _) s01
    have hw1 := hw.same s1
    have hc3 := (Row.one A1.row).1
    have ho3 := (Row.one A1.row).2
    simp [zeros, capO, e1]
    refine after_call (rvalue_ev hw1 (by omega) hsz) ?_
    rintro r g2 ⟨s2, hq⟩
    have A2 := A1.same s2
    cases ho : valueE W with
    | bad e =>
      rw [ho] at hq
      obtain rfl := hq
      simp
      refine after_call (value_ev (show SRow g2 v3 W from A2.row) (by omega) hsz) ?_
      rintro r g3 ⟨s3, rfl⟩
      rw [ho]
      simp
      refine after_call (parse_ev (show SRow g3 v3 W from (A2.same s3).row) (by omega) hsz) ?_
      rintro r g4 ⟨s4, hq4⟩
      rw [ho] at hq4
      obtain rfl := hq4
      have hw4 := ((hw1.same s2).same s3).same s4
      rcases valueE_bad ho with rfl | rfl
      all_goals
        simp
        refine after_call (rtexts_ev (show SRow g4 v3 W from ((A2.same s3).same s4).row) hw4 (by omega)) ?_
        rintro r g4 ⟨rfl, rfl⟩
        simp
    | ok v t rest =>
      rw [ho] at hq
      obtain ⟨lv, rfl, hS, hlv⟩ := hq
      simp
      refine after_call (value_ev (show SRow g2 v3 W from A2.row) (by omega) hsz) ?_
      rintro r g3 ⟨s3, rfl⟩
      rw [ho]
      simp
      refine after_call (parse_ev (show SRow g3 v3 W from (A2.same s3).row) (by omega) hsz) ?_
      rintro r g4 ⟨s4, hq4⟩
      rw [ho] at hq4
      obtain ⟨htl, b, rfl, R⟩ := hq4
      have sm4 := (((s1.trans s2).trans s3).trans s4)
      have A4 := ((A2.same s3).same s4)
      have S4 := (hS.same s3).same s4
      have hg1 := s1.len
      have hg2 := s2.len
      have hg3 := s3.len
      have hv3 : ∀ j, inRow v3 j → h.length ≤ j ∧ j < g1.length := fun j hj => A1.above j hj
      simp
      refine after_call (rtexts_ev (show SRow g4 v3 W from A4.row) (hw.same sm4) (by omega)) ?_
      rintro r g4 ⟨rfl, rfl⟩
      simp
      obtain ⟨K4, hK4⟩ : ∃ K4, K4 = g4.length := ⟨_, rfl⟩
      rw [← hK4] at R
      refine WpA.loop (fun z fr g => ∃ (i : Nat) (xs : List Value), K4 ≤ g.length ∧ z = W.length - i ∧ i ≤ W.length ∧ fr 0 = w ∧ fr 3 = v3 ∧ fr 4 = .bool v ∧ fr 5 = lv ∧ fr 9 = .pointer (some ⟨b, 0, none⟩) ∧ fr 11 = .int .i64 (i : Nat) ∧ Same h g ∧ Acc h.length g 1 v3 W.length xs ∧ ExprR g g3.length K4 b v W t ∧ SRow g lv t)
        (k := W.length) ⟨0, _, by omega, by simp, by omega, by simp, by simp, by simp, by simp, by simp, by simp, sm4, A4, R, S4⟩ ?_
      rintro z fr g ⟨i, xs, hK, rfl, hi, f0, f3, f4, f5, f9, f11, sm, A, RR, S⟩
      apply Run.ok
      have ql := QL A
      by_cases c : i < W.length
      · have c' : (i : Int) < W.length := by omega
        have w1 : IntKind.i64.wrap ((i : Int) + 1) = (i : Int) + 1 := wrap_i64 (by omega) (by omega)
        have ia := QIA A c
        obtain ⟨g', xs', q1, A', u'⟩ := putQ A c
        simp [f0, f3, f4, f5, f9, f11, ql, c', ia, q1, w1, -load_ptr, -store_ptr, -roundQ_normal, ↓rq]
        refine stop_intro ⟨W.length - (i + 1), by omega, i + 1, xs', by have := u'.len; omega, rfl, by omega, by simp [f0], by simp [f3], by simp [f4], by simp [f5], by simp [f9], by simp, Upd.trans sm u' fun j hj hin => by have := hv3 j hin; omega, A', RR.upd u' fun j h1 h2 hin => by have := hv3 j hin; omega, S.upd u' fun j hj hin => by have := hv3 j hin; have := hlv j hj; omega⟩
      · have c' : ¬ (i : Int) < W.length := by omega
        simp [f0, f3, f4, f5, f9, f11, ql, c', -load_ptr]
        refine WpA.loop (fun z fr g => ∃ (i : Nat), z = 2 - i ∧ i ≤ 2 ∧ fr 0 = w ∧ fr 4 = .bool v ∧ fr 5 = lv ∧ fr 9 = .pointer (some ⟨b, 0, none⟩) ∧ fr 12 = .int .i64 (i : Nat) ∧ Same h g ∧ ExprR g g3.length K4 b v W t ∧ SRow g lv t ∧ K4 ≤ g.length)
          (k := 2) ⟨0, by simp, by omega, by simp [f0], by simp [f4], by simp [f5], by simp [f9], by simp, sm, RR, S, hK⟩ ?_
        clear f0 f3 f4 f5 f9 f11 ql A c c' sm RR S hK
        rintro z fr g ⟨i, rfl, hi, f0, f4, f5, f9, f12, sm, RR, S, hK4⟩
        apply Run.ok
        by_cases c : i < 2
        · have c' : (i : Int) < 2 := by omega
          have w1 : IntKind.i64.wrap ((i : Int) + 1) = (i : Int) + 1 := wrap_i64 (by omega) (by omega)
          simp [f0, f4, f5, f9, f12, c', -load_ptr]
          refine after_call (words_ev RR (by omega)) ?_
          rintro av g6 ⟨A6, s6⟩
          have R6 := RR.same s6
          simp [f9]
          refine after_call (texts_ev R6 (by omega)) ?_
          rintro bv g7 ⟨B7, s7⟩
          have R7 := R6.same s7
          simp [f9]
          refine after_call (eval_ev R7) ?_
          rintro r g8 ⟨rfl, s8⟩
          have R8 := R7.same s8
          have s68 := (s6.trans s7).trans s8
          have sm8 := sm.trans s68
          have A8 := (A6.same s7).same s8
          have B8 := B7.same s8
          have S8 := S.same s68
          simp [f0, f4]
          refine after_call (rtexts_ev (show SRow g8 av W from A8.row) (hw.same sm8) (by omega)) ?_
          rintro r g8 ⟨rfl, rfl⟩
          simp [f5]
          refine after_call (rtexts_ev (show SRow g8 bv t from B8.row) S8 (by omega)) ?_
          rintro r g8 ⟨rfl, rfl⟩
          have hg6 := s6.len
          have hav : ∀ j, inRow av j → g.length ≤ j ∧ j < g6.length := fun j hj => A6.above j hj
          have hbv : ∀ j, inRow bv j → g6.length ≤ j := fun j hj => (B7.above j hj).1
          have hgl := sm.len
          simp
          refine WpA.loop (fun z fr g' => ∃ (q : Nat) (xs ys : List Value), z = W.length - q ∧ q ≤ W.length ∧ fr 0 = w ∧ fr 4 = .bool v ∧ fr 5 = lv ∧ fr 9 = .pointer (some ⟨b, 0, none⟩) ∧ fr 12 = .int .i64 (i : Nat) ∧ fr 13 = av ∧ fr 14 = bv ∧ fr 15 = .int .i64 (q : Nat) ∧ Same g g' ∧ Acc g.length g' 1 av W.length xs ∧ Acc g6.length g' 1 bv t.length ys)
            (k := W.length) ⟨0, _, _, by simp, by omega, by simp [f0], by simp [f4], by simp [f5], by simp [f9], by simp [f12], by simp, by simp, by simp, s68, A8, B8⟩ ?_
          clear f0 f4 f5 f9 f12
          rintro z fr g9 ⟨q, xs, ys, rfl, hq, f0, f4, f5, f9, f12, f13, f14, f15, sg, A9, B9⟩
          apply Run.ok
          have ql := QL A9
          by_cases e : q < W.length
          · have e' : (q : Int) < W.length := by omega
            have w2 : IntKind.i64.wrap ((q : Int) + 1) = (q : Int) + 1 := wrap_i64 (by omega) (by omega)
            have ia := QIA A9 e
            obtain ⟨g', xs', q1, A', u'⟩ := putQ A9 e
            simp [f0, f4, f5, f9, f12, f13, f14, f15, ql, e', ia, q1, w2, -load_ptr, -store_ptr, -roundQ_normal, ↓rq]
            refine stop_intro ⟨W.length - (q + 1), by omega, q + 1, xs', ys, rfl, by omega, by simp [f0], by simp [f4], by simp [f5], by simp [f9], by simp [f12], by simp [f13], by simp [f14], by simp, Upd.trans sg u' fun j hj hin => by have := hav j hin; omega, A', B9.upd u' fun j hj hin => by have := hav j hin; have := hbv j hj; omega⟩
          · have e' : ¬ (q : Int) < W.length := by omega
            simp [f0, f4, f5, f9, f12, f13, f14, f15, ql, e', -load_ptr]
            refine WpA.loop (fun z fr g' => ∃ (q : Nat) (ys : List Value), z = t.length - q ∧ q ≤ t.length ∧ fr 0 = w ∧ fr 4 = .bool v ∧ fr 5 = lv ∧ fr 9 = .pointer (some ⟨b, 0, none⟩) ∧ fr 12 = .int .i64 (i : Nat) ∧ fr 14 = bv ∧ fr 16 = .int .i64 (q : Nat) ∧ Same g g' ∧ Acc g6.length g' 1 bv t.length ys)
              (k := t.length) ⟨0, _, by simp, by omega, by simp [f0], by simp [f4], by simp [f5], by simp [f9], by simp [f12], by simp [f14], by simp, sg, B9⟩ ?_
            clear f0 f4 f5 f9 f12 f13 f14 f15 sg A9 B9 ql e e' hq
            rintro z fr g9 ⟨q, ys, rfl, hq, f0, f4, f5, f9, f12, f14, f16, sg, B9⟩
            apply Run.ok
            have ql := QL B9
            by_cases e : q < t.length
            · have e' : (q : Int) < t.length := by omega
              have w2 : IntKind.i64.wrap ((q : Int) + 1) = (q : Int) + 1 := wrap_i64 (by omega) (by omega)
              have ia := QIA B9 e
              obtain ⟨g', ys', q1, B', u'⟩ := putQ B9 e
              simp [f0, f4, f5, f9, f12, f14, f16, ql, e', ia, q1, w2, -load_ptr, -store_ptr, -roundQ_normal, ↓rq]
              refine stop_intro ⟨t.length - (q + 1), by omega, q + 1, ys', rfl, by omega, by simp [f0], by simp [f4], by simp [f5], by simp [f9], by simp [f12], by simp [f14], by simp, Upd.trans sg u' fun j hj hin => by have := hbv j hin; omega, B'⟩
            · have e' : ¬ (q : Int) < t.length := by omega
              simp [f0, f4, f5, f9, f12, f14, f16, ql, e', w1, -load_ptr, -roundQ_normal, ↓rq]
              refine stop_intro ⟨2 - (i + 1), by omega, i + 1, rfl, by omega, by simp [f0], by simp [f4], by simp [f5], by simp [f9], by simp, sm.trans sg, RR.same sg, S.same sg, by have := sg.len; omega⟩
        · have c' : ¬ (i : Int) < 2 := by omega
          simp [f12, c']
theorem exprValues_ev (h : Hp) (vs : List Value) (dts : List Dt) (hr : RepAll Try.prog h 6 [22] vs dts) : EvA Try.prog 5 vs (fun r _ => r = .bool true) h := by
  obtain ⟨a, vs, e, ds, rfl, rfl, h1, hr⟩ := hr.cons
  rw [hr.nil]
  obtain ⟨l, l1, l2, l3⟩ := h1.strs (e := 9) (by simp) (by simp) (by kernel_rfl)
  exact values11_ev (RoRow.strs l1) (Nat.le_trans l2 (by decide)) (fun x hx => Nat.le_trans (l3 x hx) (by decide))
end Go.Proofs.Ytbamofeocfbjbaa
