/- The law ExprLogic: called, it comes to true; no condition. -/
import Derived.Test.YtbamofeocfbjbaaLawBrackets
namespace Go.Proofs.Ytbamofeocfbjbaa
open Go.Ab Go.Glob
theorem cutRun2 {P : Program} {n : Nat} {C : Code} {Q : QA} {F : Fr → Hp → Prop} {G : Prop} (main : (∀ fr g, F fr g → Run P n C Q fr g) → G) (key : ∀ fr g, F fr g → Run P n C Q fr g) : G := main key
theorem sAt {h : Hp} {b : Nat} (x : Bs) (hB : h[b]? = some (.cells [.string (bs x)] false none)) : SRow h (.slice (some ⟨b, 0, none⟩) 1 1) [x] := by
  refine ⟨⟨_, _, rfl⟩, ?_, by simp⟩
  simp [srcA, str, hB]
/-- six conditions, each with what it comes to -/
def Six (g : Hp) (v : Value) : Prop := ∃ xs, Row g 2 v 6 xs ∧ ∀ j, j < 6 → ∃ rv Wv want, (xs.drop (j * 2)).take 2 = [rv, .bool want] ∧ SRow g rv Wv ∧ Wv.length ≤ 100000 ∧ (∀ x ∈ Wv, x.length ≤ 3000) ∧ (okB Wv = true → valB Wv = want)
theorem Six.same {g g' : Hp} {v : Value} (m : Six g v) (s : Same g g') : Six g' v := by
  obtain ⟨xs, r, f⟩ := m
  refine ⟨xs, r.same s, fun j hj => ?_⟩
  obtain ⟨rv, Wv, want, a, b, c⟩ := f j hj
  exact ⟨rv, Wv, want, a, b.same s, c⟩
theorem len6 (b : Nat) (g : Hp) : lenA Try.prog 30 (.slice (some ⟨b, 0, none⟩) 6 6) g = some (.int .i64 6) := by simp [lenA]
set_option maxHeartbeats 8000000 in
set_option maxRecDepth 6000 in
theorem logic11_ev {h : Hp} {A B C : List Bs} {a b c : Value} (ha : SRow h a A) (hb : SRow h b B) (hc : SRow h c C)
    (hla : A.length ≤ 140737488355328) (hxa : ∀ x ∈ A, x.length ≤ 140737488355328) (hlb : B.length ≤ 140737488355328) (hxb : ∀ x ∈ B, x.length ≤ 140737488355328) (hlc : C.length ≤ 140737488355328) (hxc : ∀ x ∈ C, x.length ≤ 140737488355328) :
    EvA Try.prog 3 [a, b, c] (fun r _ => r = .bool true) h := by
  refine EvA.body Try.func3 rfl (by kernel_rfl) (by simp) ?_
  apply Run.ok
  simp
  refine after_call (works11_ev _) ?_
  rintro r g ⟨rfl, rfl⟩
  simp
  refine after_call (large11_ev ha hla hxa) ?_
  rintro r h ⟨⟨bl, rfl, hbl⟩, rfl⟩
  cases bl with
  | true =>
    simp
    refine after_call (works11_ev _) ?_
    rintro r g ⟨rfl, rfl⟩
    simp
  | false =>
  obtain ⟨hla, hxa⟩ := hbl rfl
  simp
  refine after_call (large11_ev hb hlb hxb) ?_
  rintro r h ⟨⟨bl, rfl, hbl⟩, rfl⟩
  cases bl with
  | true =>
    simp
    refine after_call (works11_ev _) ?_
    rintro r g ⟨rfl, rfl⟩
    simp
  | false =>
  obtain ⟨hlb, hxb⟩ := hbl rfl
  simp
  refine after_call (large11_ev hc hlc hxc) ?_
  rintro r h ⟨⟨bl, rfl, hbl⟩, rfl⟩
  cases bl with
  | true =>
    simp
    refine after_call (works11_ev _) ?_
    rintro r g ⟨rfl, rfl⟩
    simp
  | false =>
  obtain ⟨hlc, hxc⟩ := hbl rfl
  simp
  refine after_call (round_ev ha (by omega)) ?_
  rintro v4 g1 ⟨A1, s1⟩
  simp
  refine after_call (round_ev (hb.same s1) (by omega)) ?_
  rintro v5 g2 ⟨A2, s2⟩
  simp
  refine after_call (round_ev ((hc.same s1).same s2) (by omega)) ?_
  rintro v6 g3 ⟨A3, s3⟩
  simp [zeros, capO]
  have O0 : SRow (g3 ++ [Blk.cells [.string ⟨#[111, 114]⟩] false none, Blk.cells [.string ⟨#[97, 110, 100]⟩] false none, Blk.cells [.string ⟨#[110, 111, 116]⟩] false none]) (.slice (some ⟨g3.length, 0, none⟩) 1 1) [wOr] := sAt wOr (by simp [bs, wOr])
  have N0 : SRow (g3 ++ [Blk.cells [.string ⟨#[111, 114]⟩] false none, Blk.cells [.string ⟨#[97, 110, 100]⟩] false none, Blk.cells [.string ⟨#[110, 111, 116]⟩] false none]) (.slice (some ⟨g3.length + 1, 0, none⟩) 1 1) [wAnd] := sAt wAnd (by simp [bs, wAnd])
  have T0 : SRow (g3 ++ [Blk.cells [.string ⟨#[111, 114]⟩] false none, Blk.cells [.string ⟨#[97, 110, 100]⟩] false none, Blk.cells [.string ⟨#[110, 111, 116]⟩] false none]) (.slice (some ⟨g3.length + 2, 0, none⟩) 1 1) [wNot] := sAt wNot (by simp [bs, wNot])
  have sG : Same g3 (g3 ++ [Blk.cells [.string ⟨#[111, 114]⟩] false none, Blk.cells [.string ⟨#[97, 110, 100]⟩] false none, Blk.cells [.string ⟨#[110, 111, 116]⟩] false none]) := Same.new _
  generalize hG : g3 ++ [Blk.cells [Value.string ⟨#[111, 114]⟩] false none, Blk.cells [.string ⟨#[97, 110, 100]⟩] false none, Blk.cells [.string ⟨#[110, 111, 116]⟩] false none] = G at O0 N0 T0 sG ⊢
  generalize Value.slice (some ⟨g3.length, 0, none⟩) 1 1 = vo at O0 ⊢
  generalize Value.slice (some ⟨g3.length + 1, 0, none⟩) 1 1 = va at N0 ⊢
  generalize Value.slice (some ⟨g3.length + 2, 0, none⟩) 1 1 = vn at T0 ⊢
  have X0 : SRow G v4 (inB A []) := ((SRow.same (show SRow g1 v4 (inB A []) from A1.row) s2).same s3).same sG
  have Y0 : SRow G v5 (inB B []) := (SRow.same (show SRow g2 v5 (inB B []) from A2.row) s3).same sG
  have Z0 : SRow G v6 (inB C []) := SRow.same (show SRow g3 v6 (inB C []) from A3.row) sG
  have ha := (((ha.same s1).same s2).same s3).same sG
  have hb := (((hb.same s1).same s2).same s3).same sG
  have hc := (((hc.same s1).same s2).same s3).same sG
  clear hG A1 A2 A3 s1 s2 s3 sG
  have big : ∀ {W : List Bs}, (∀ x ∈ W, x.length ≤ 3000) → ∀ x ∈ W, x.length < 1000000000 := fun hx x hm => by have := hx x hm; omega
  have hn0 : ∀ x ∈ ([] : List Bs), x.length ≤ 3000 := by simp
  have lA := fun s => inB_len A s
  have lB := fun s => inB_len B s
  have lC := fun s => inB_len C s
  have xA := fun s (hs : ∀ x ∈ s, x.length ≤ 3000) => inB_small (W := A) (s := s) hxa hs
  have xB := fun s (hs : ∀ x ∈ s, x.length ≤ 3000) => inB_small (W := B) (s := s) hxb hs
  have xC := fun s (hs : ∀ x ∈ s, x.length ≤ 3000) => inB_small (W := C) (s := s) hxc hs
  have x1 : ∀ w ∈ [wOr, wAnd, wNot], ∀ s, (∀ x ∈ s, x.length ≤ 3000) → ∀ x ∈ w :: s, x.length ≤ 3000 := by
    intro w hw s hs x hx
    rcases List.mem_cons.1 hx with rfl | hx
    · simp only [List.mem_cons, List.not_mem_nil, or_false] at hw
      rcases hw with rfl | rfl | rfl <;> decide
    · exact hs x hx
  refine after_call (plain11_ev ha (by omega) (big hxa)) ?_
  rintro r g1 ⟨s1, pb, rfl, hpa⟩
  cases pb with
  | false => simp
  | true =>
  obtain ⟨p, ta, PA⟩ := hpa rfl
  simp
  refine after_call (plain11_ev (hb.same s1) (by omega) (big hxb)) ?_
  rintro r g2 ⟨s2, pb, rfl, hpb⟩
  cases pb with
  | false => simp
  | true =>
  obtain ⟨q, tb, PB⟩ := hpb rfl
  simp
  refine after_call (plain11_ev ((hc.same s1).same s2) (by omega) (big hxc)) ?_
  rintro r g3 ⟨s3, pb, rfl, hpc⟩
  cases pb with
  | false => simp
  | true =>
  obtain ⟨r, tc, PC⟩ := hpc rfl
  have sm := (s1.trans s2).trans s3
  simp
  refine after_call (holds11_ev (X0.same sm) (by have := lA []; simp at this; omega) (big (xA _ hn0))) ?_
  rintro r4 g4 ⟨s4, rfl⟩
  have sm := sm.trans s4
  simp
  refine after_call (holds11_ev (Y0.same sm) (by have := lB []; simp at this; omega) (big (xB _ hn0))) ?_
  rintro r5 g5 ⟨s5, rfl⟩
  have sm := sm.trans s5
  simp
  refine after_call (holds11_ev (Z0.same sm) (by have := lC []; simp at this; omega) (big (xC _ hn0))) ?_
  rintro r6 g6 ⟨s6, rfl⟩
  have sm := sm.trans s6
  clear s1 s2 s3 s4 s5 s6
  have e1 := logic0 PA
  have e2 := logic0 PB
  have e3 := logic0 PC
  generalize okB (inB A []) = i1 at e1 ⊢
  generalize okB (inB B []) = i2 at e2 ⊢
  generalize okB (inB C []) = i3 at e3 ⊢
  cases i1 with
  | false => simp
  | true =>
  cases i2 with
  | false => simp
  | true =>
  cases i3 with
  | false => simp
  | true =>
  rw [e1 rfl, e2 rfl, e3 rfl]
  clear e1 e2 e3
  have hc4 := (Row.one X0).1
  have ho4 := (Row.one X0).2
  have hc5 := (Row.one Y0).1
  have ho5 := (Row.one Y0).2
  have hc6 := (Row.one Z0).1
  have ho6 := (Row.one Z0).2
  have hco := (Row.one O0).1
  have hoo := (Row.one O0).2
  have hca := (Row.one N0).1
  have hoa := (Row.one N0).2
  have hcn := (Row.one T0).1
  have hon := (Row.one T0).2
  apply cutRun2 (F := fun fr g => fr 0 = a ∧ fr 7 = v4 ∧ fr 8 = v5 ∧ fr 9 = v6 ∧ fr 10 = vo ∧ fr 11 = va ∧ fr 12 = vn ∧ fr 13 = .bool p ∧ fr 15 = .bool q ∧ fr 17 = .bool r ∧ fr 161 = .int .i64 6 ∧ fr 162 = .int .i64 0 ∧ Same G g ∧ Six g (fr 160))
  · intro key
    rcases Bool.eq_false_or_eq_true p with hp | hp <;> rcases Bool.eq_false_or_eq_true q with hq | hq <;> rcases Bool.eq_false_or_eq_true r with hr | hr
    all_goals
      simp [hc4, hc5, hco, spl, zeros, capO, hp, hq, hr, -Run_block']
      refine after_call (row11_ev (ls := [inB A [], [wOr], inB B []]) (F := inB A (wOr :: inB B [])) (rowLit _ [v4, vo, v5]) (.cons ((X0.same sm).same (Same.new _)) (.cons ((O0.same sm).same (Same.new _)) (.cons ((Y0.same sm).same (Same.new _)) .nil))) (by simp) (by simp [inB]) (by simp only [lA, lB, List.length_cons, List.length_nil]; omega)) ?_
      rintro w1 k1 ⟨W1, s1⟩
      have S1 : SRow k1 w1 _ := W1.row
      have sm := sm.trans ((Same.new _).trans s1)
      have c1 := (Row.one W1.row).1
      have o1 := (Row.one W1.row).2
      simp [hc4, hc5, hca, spl, zeros, capO, hp, hq, hr, c1, -Run_block']
      refine after_call (row11_ev (ls := [inB A [], [wAnd], inB B []]) (F := inB A (wAnd :: inB B [])) (rowLit _ [v4, va, v5]) (.cons ((X0.same sm).same (Same.new _)) (.cons ((N0.same sm).same (Same.new _)) (.cons ((Y0.same sm).same (Same.new _)) .nil))) (by simp) (by simp [inB]) (by simp only [lA, lB, List.length_cons, List.length_nil]; omega)) ?_
      rintro w2 k2 ⟨W2, s2⟩
      have S2 : SRow k2 w2 _ := W2.row
      have sm := sm.trans ((Same.new _).trans s2)
      have c2 := (Row.one W2.row).1
      have o2 := (Row.one W2.row).2
      simp [hc4, hco, spl, zeros, capO, hp, hq, hr, c2, -Run_block']
      refine after_call (row11_ev (ls := [inB A [], [wOr], inB A []]) (F := inB A (wOr :: inB A [])) (rowLit _ [v4, vo, v4]) (.cons ((X0.same sm).same (Same.new _)) (.cons ((O0.same sm).same (Same.new _)) (.cons ((X0.same sm).same (Same.new _)) .nil))) (by simp) (by simp [inB]) (by simp only [lA, List.length_cons, List.length_nil]; omega)) ?_
      rintro w3 k3 ⟨W3, s3⟩
      have S3 : SRow k3 w3 _ := W3.row
      have sm := sm.trans ((Same.new _).trans s3)
      have c3 := (Row.one W3.row).1
      have o3 := (Row.one W3.row).2
      simp [hc4, hc5, hc6, hco, hca, spl, zeros, capO, hp, hq, hr, c3, -Run_block']
      refine after_call (row11_ev (ls := [inB A [], [wAnd], inB B [], [wOr], inB C []]) (F := inB A (wAnd :: inB B (wOr :: inB C []))) (rowLit _ [v4, va, v5, vo, v6]) (.cons ((X0.same sm).same (Same.new _)) (.cons ((N0.same sm).same (Same.new _)) (.cons ((Y0.same sm).same (Same.new _)) (.cons ((O0.same sm).same (Same.new _)) (.cons ((Z0.same sm).same (Same.new _)) .nil))))) (by simp) (by simp [inB]) (by simp only [lA, lB, lC, List.length_cons, List.length_nil]; omega)) ?_
      rintro w4 k4 ⟨W4, s4⟩
      have S4 : SRow k4 w4 _ := W4.row
      have sm := sm.trans ((Same.new _).trans s4)
      have c4 := (Row.one W4.row).1
      have o4 := (Row.one W4.row).2
      simp [hc4, hc5, hc6, hco, hca, spl, zeros, capO, hp, hq, hr, c4, -Run_block']
      refine after_call (row11_ev (ls := [inB A [], [wOr], inB B [], [wAnd], inB C []]) (F := inB A (wOr :: inB B (wAnd :: inB C []))) (rowLit _ [v4, vo, v5, va, v6]) (.cons ((X0.same sm).same (Same.new _)) (.cons ((O0.same sm).same (Same.new _)) (.cons ((Y0.same sm).same (Same.new _)) (.cons ((N0.same sm).same (Same.new _)) (.cons ((Z0.same sm).same (Same.new _)) .nil))))) (by simp) (by simp [inB]) (by simp only [lA, lB, lC, List.length_cons, List.length_nil]; omega)) ?_
      rintro w5 k5 ⟨W5, s5⟩
      have S5 : SRow k5 w5 _ := W5.row
      have sm := sm.trans ((Same.new _).trans s5)
      have c5 := (Row.one W5.row).1
      have o5 := (Row.one W5.row).2
      simp [hc4, hc5, hca, hcn, spl, zeros, capO, hp, hq, hr, c5, -Run_block']
      refine after_call (row11_ev (ls := [[wNot], inB A [], [wAnd], [wNot], inB B []]) (F := wNot :: inB A (wAnd :: wNot :: inB B [])) (rowLit _ [vn, v4, va, vn, v5]) (.cons ((T0.same sm).same (Same.new _)) (.cons ((X0.same sm).same (Same.new _)) (.cons ((N0.same sm).same (Same.new _)) (.cons ((T0.same sm).same (Same.new _)) (.cons ((Y0.same sm).same (Same.new _)) .nil))))) (by simp) (by simp [inB]) (by simp only [lA, lB, List.length_cons, List.length_nil]; omega)) ?_
      rintro w6 k6 ⟨W6, s6⟩
      have S6 : SRow k6 w6 _ := W6.row
      have sm := sm.trans ((Same.new _).trans s6)
      have c6 := (Row.one W6.row).1
      have o6 := (Row.one W6.row).2
      simp [spl, zeros, capO, hp, hq, hr, c6, len6, -Run_block']
      refine key _ _ ?_
      refine ⟨by simp, by simp, by simp, by simp, by simp, by simp, by simp, by simp [hp], by simp [hq], by simp [hr], by simp, by simp, sm.trans (Same.new _), ?_⟩
      simp
      refine ⟨_, ⟨⟨_, _, rfl⟩, by simp [srcA]; rfl, by simp⟩, fun j hj => ?_⟩
      have hj6 : j = 0 ∨ j = 1 ∨ j = 2 ∨ j = 3 ∨ j = 4 ∨ j = 5 := by omega
      rcases hj6 with rfl | rfl | rfl | rfl | rfl | rfl
      · exact ⟨w1, _, (p || q), by simp [hp, hq], (((((S1.same ((Same.new _).trans s2)).same ((Same.new _).trans s3)).same ((Same.new _).trans s4)).same ((Same.new _).trans s5)).same ((Same.new _).trans s6)).same (Same.new _), by simp only [lA, lB, List.length_cons, List.length_nil]; omega, xA _ (x1 wOr (by simp) _ (xB _ hn0)), logic1 PA PB⟩
      · exact ⟨w2, _, (p && q), by simp [hp, hq], ((((S2.same ((Same.new _).trans s3)).same ((Same.new _).trans s4)).same ((Same.new _).trans s5)).same ((Same.new _).trans s6)).same (Same.new _), by simp only [lA, lB, List.length_cons, List.length_nil]; omega, xA _ (x1 wAnd (by simp) _ (xB _ hn0)), logic2 PA PB⟩
      · exact ⟨w3, _, p, by simp [hp], (((S3.same ((Same.new _).trans s4)).same ((Same.new _).trans s5)).same ((Same.new _).trans s6)).same (Same.new _), by simp only [lA, List.length_cons, List.length_nil]; omega, xA _ (x1 wOr (by simp) _ (xA _ hn0)), (by simpa using logic1 PA PA)⟩
      · exact ⟨w4, _, (p && q || r), by simp [hp, hq, hr], ((S4.same ((Same.new _).trans s5)).same ((Same.new _).trans s6)).same (Same.new _), by simp only [lA, lB, lC, List.length_cons, List.length_nil]; omega, xA _ (x1 wAnd (by simp) _ (xB _ (x1 wOr (by simp) _ (xC _ hn0)))), logic3 PA PB PC⟩
      · exact ⟨w5, _, (p || q && r), by simp [hp, hq, hr], (S5.same ((Same.new _).trans s6)).same (Same.new _), by simp only [lA, lB, lC, List.length_cons, List.length_nil]; omega, xA _ (x1 wOr (by simp) _ (xB _ (x1 wAnd (by simp) _ (xC _ hn0)))), logic4 PA PB PC⟩
      · exact ⟨w6, _, (!p && !q), by simp [hp, hq], S6.same (Same.new _), by simp only [lA, lB, List.length_cons, List.length_nil]; omega, x1 wNot (by simp) _ (xA _ (x1 wAnd (by simp) _ (x1 wNot (by simp) _ (xB _ hn0)))), logic5 PA PB⟩
  · rintro fr g ⟨f0, f7, f8, f9, f10, f11, f12, f13, f15, f17, f161, f162, sm, hS⟩
    clear hc4 ho4 hc5 ho5 hc6 ho6 hco hoo hca hoa hcn hon
    generalize hv : fr 160 = v160 at hS
    simp
    refine WpA.loop (fun z fr g => ∃ (j : Nat), z = 6 - j ∧ j ≤ 6 ∧ fr 0 = a ∧ fr 7 = v4 ∧ fr 8 = v5 ∧ fr 9 = v6 ∧ fr 10 = vo ∧ fr 11 = va ∧ fr 12 = vn ∧ fr 13 = .bool p ∧ fr 15 = .bool q ∧ fr 17 = .bool r ∧ fr 160 = v160 ∧ fr 161 = .int .i64 6 ∧ fr 162 = .int .i64 (j : Nat) ∧ Same G g ∧ Six g v160)
      (k := 6) ⟨0, by omega, by omega, f0, f7, f8, f9, f10, f11, f12, f13, f15, f17, hv, f161, by simp [f162], sm, hS⟩ ?_
    clear f0 f7 f8 f9 f10 f11 f12 f13 f15 f17 f161 f162 sm hS hv
    rintro z fr g ⟨j, rfl, hj, f0, f7, f8, f9, f10, f11, f12, f13, f15, f17, f160, f161, f162, sm, hS⟩
    apply Run.ok
    by_cases c : j < 6
    · have c' : (j : Int) < 6 := by omega
      have w1 : IntKind.i64.wrap ((j : Int) + 1) = (j : Int) + 1 := wrap_i64 (by omega) (by omega)
      have hS0 := hS
      obtain ⟨xs, R, hf⟩ := hS
      obtain ⟨rv, Wv, want, hxs, S, hl, hx, hlaw⟩ := hf j c
      have ia := Row.ia (P := Try.prog) (t := 30) (e := 29) R (by simp) (by simp) c .i64
      have ld := Row.lda (P := Try.prog) (e := 29) R (by simp) (by simp) c
      rw [hxs] at ld
      have sn : Same g (g ++ [Blk.cells [rv, .bool want] false none]) := Same.new _
      have hB : (g ++ [Blk.cells [rv, .bool want] false none])[g.length]? = some (.cells [rv, .bool want] false none) := by simp
      have hc := (Row.one S).1
      have ho := (Row.one S).2
      have l0 : loadA Try.prog 22 (.pointer (some ⟨g.length, 0, none⟩)) (g ++ [Blk.cells [rv, .bool want] false none]) = some rv := by rw [load_at hB (by simp)]; rfl
      simp [f160, f161, f162, c', ia, ld, ho, spl, l0, -load_ptr]
      refine after_call (holds11_ev (S.same sn) (by omega) (big hx)) ?_
      rintro r2 g2 ⟨s2, rfl⟩
      have hB2 := s2.at hB
      have l1 : loadA Try.prog 4 (.pointer (some ⟨g.length, 1, none⟩)) g2 = some (.bool want) := by rw [load_at hB2 (by simp)]; rfl
      generalize okB Wv = i1 at hlaw ⊢
      cases i1 with
      | false =>
        simp [f162, w1, -load_ptr, -roundQ_normal, ↓rq]
        exact stop_intro ⟨6 - (j + 1), by omega, j + 1, rfl, by omega, by simp [f0], by simp [f7], by simp [f8], by simp [f9], by simp [f10], by simp [f11], by simp [f12], by simp [f13], by simp [f15], by simp [f17], by simp [f160], by simp [f161], by simp, (sm.trans sn).trans s2, (hS0.same sn).same s2⟩
      | true =>
        rw [hlaw rfl]
        simp [f162, w1, l1, -load_ptr, -roundQ_normal, ↓rq]
        exact stop_intro ⟨6 - (j + 1), by omega, j + 1, rfl, by omega, by simp [f0], by simp [f7], by simp [f8], by simp [f9], by simp [f10], by simp [f11], by simp [f12], by simp [f13], by simp [f15], by simp [f17], by simp [f160], by simp [f161], by simp, (sm.trans sn).trans s2, (hS0.same sn).same s2⟩
    · have c' : ¬ (j : Int) < 6 := by omega
      have hc4 := (Row.one X0).1
      have ho4 := (Row.one X0).2
      have hc5 := (Row.one Y0).1
      have ho5 := (Row.one Y0).2
      have hc6 := (Row.one Z0).1
      have ho6 := (Row.one Z0).2
      have hco := (Row.one O0).1
      have hoo := (Row.one O0).2
      have hca := (Row.one N0).1
      have hoa := (Row.one N0).2
      have hcn := (Row.one T0).1
      have hon := (Row.one T0).2
      simp [f7, f8, f10, f12, f161, f162, c', hc4, hc5, hco, spl, zeros, capO]
      refine after_call (row11_ev (ls := [inB A [], [wOr], inB B []]) (F := inB A (wOr :: inB B [])) (rowLit _ [v4, vo, v5]) (.cons ((X0.same sm).same (Same.new _)) (.cons ((O0.same sm).same (Same.new _)) (.cons ((Y0.same sm).same (Same.new _)) .nil))) (by simp) (by simp [inB]) (by simp only [lA, lB, List.length_cons, List.length_nil]; omega)) ?_
      rintro w1 k1 ⟨W1, s1⟩
      have S1 : SRow k1 w1 _ := W1.row
      have sm := sm.trans ((Same.new _).trans s1)
      simp
      refine after_call (round_ev S1 (by simp only [lA, lB, List.length_cons, List.length_nil]; omega)) ?_
      rintro w2 k2 ⟨W2, s2⟩
      have S2 : SRow k2 w2 _ := W2.row
      have sm := sm.trans s2
      have c2 := (Row.one S2).1
      have o2 := (Row.one S2).2
      simp [c2, hcn, spl, zeros, capO]
      refine after_call (row11_ev (ls := [[wNot], inB (inB A (wOr :: inB B [])) []]) (F := wNot :: inB (inB A (wOr :: inB B [])) []) (rowLit _ [vn, w2]) (.cons ((T0.same sm).same (Same.new _)) (.cons (S2.same (Same.new _)) .nil)) (by simp) (by simp) (by simp only [lA, lB, inB_len, List.length_cons, List.length_nil]; omega)) ?_
      rintro w3 k3 ⟨W3, s3⟩
      have S3 : SRow k3 w3 _ := W3.row
      have sm := sm.trans ((Same.new _).trans s3)
      simp
      refine after_call (holds11_ev S3 (by simp only [lA, lB, inB_len, List.length_cons, List.length_nil]; omega) (big (x1 wNot (by simp) _ (inB_small (xA _ (x1 wOr (by simp) _ (xB _ hn0))) hn0)))) ?_
      rintro r4 k4 ⟨s4, rfl⟩
      have sm := sm.trans s4
      simp [f7, f8, f9, f10, f11, hc5, hc6, hco, spl, zeros, capO]
      refine after_call (row11_ev (ls := [inB B [], [wOr], inB C []]) (F := inB B (wOr :: inB C [])) (rowLit _ [v5, vo, v6]) (.cons ((Y0.same sm).same (Same.new _)) (.cons ((O0.same sm).same (Same.new _)) (.cons ((Z0.same sm).same (Same.new _)) .nil))) (by simp) (by simp [inB]) (by simp only [lB, lC, List.length_cons, List.length_nil]; omega)) ?_
      rintro w5 k5 ⟨W5, s5⟩
      have S5 : SRow k5 w5 _ := W5.row
      have sm := sm.trans ((Same.new _).trans s5)
      simp
      refine after_call (round_ev S5 (by simp only [lB, lC, List.length_cons, List.length_nil]; omega)) ?_
      rintro w6 k6 ⟨W6, s6⟩
      have S6 : SRow k6 w6 _ := W6.row
      have sm := sm.trans s6
      have c6 := (Row.one S6).1
      have o6 := (Row.one S6).2
      simp [c6, hc4, hca, spl, zeros, capO]
      refine after_call (row11_ev (ls := [inB A [], [wAnd], inB (inB B (wOr :: inB C [])) []]) (F := inB A (wAnd :: inB (inB B (wOr :: inB C [])) [])) (rowLit _ [v4, va, w6]) (.cons ((X0.same sm).same (Same.new _)) (.cons ((N0.same sm).same (Same.new _)) (.cons (S6.same (Same.new _)) .nil))) (by simp) (by simp [inB]) (by simp only [lA, lB, lC, inB_len, List.length_cons, List.length_nil]; omega)) ?_
      rintro w7 k7 ⟨W7, s7⟩
      have S7 : SRow k7 w7 _ := W7.row
      simp
      refine after_call (holds11_ev S7 (by simp only [lA, lB, lC, inB_len, List.length_cons, List.length_nil]; omega) (big (xA _ (x1 wAnd (by simp) _ (inB_small (xB _ (x1 wOr (by simp) _ (xC _ hn0))) hn0))))) ?_
      rintro r8 k8 ⟨s8, rfl⟩
      have e1 := logic6 PA PB
      have e2 := logic7 PA PB PC
      generalize okB (wNot :: inB (inB A (wOr :: inB B [])) []) = i1 at e1 ⊢
      generalize okB (inB A (wAnd :: inB (inB B (wOr :: inB C [])) [])) = i2 at e2 ⊢
      generalize valB (wNot :: inB (inB A (wOr :: inB B [])) []) = u1 at e1 ⊢
      generalize valB (inB A (wAnd :: inB (inB B (wOr :: inB C [])) [])) = u2 at e2 ⊢
      clear PA PB PC
      cases i1 <;> cases i2 <;> simp at e1 e2 <;> (try subst e1) <;> (try subst e2) <;> cases p <;> cases q <;> cases r <;> simp [f13, f15, f17]
theorem exprLogic_ev (h : Hp) (vs : List Value) (dts : List Dt) (hr : RepAll Try.prog h 6 [22, 22, 22] vs dts) : EvA Try.prog 3 vs (fun r _ => r = .bool true) h := by
  obtain ⟨a, vs, e, ds, rfl, rfl, h1, hr⟩ := hr.cons
  obtain ⟨b, vs, e2, ds, rfl, rfl, h2, hr⟩ := hr.cons
  obtain ⟨c, vs, e3, ds, rfl, rfl, h3, hr⟩ := hr.cons
  rw [hr.nil]
  obtain ⟨l, l1, l2, l3⟩ := h1.strs (e := 9) (by simp) (by simp) (by kernel_rfl)
  obtain ⟨m, m1, m2, m3⟩ := h2.strs (e := 9) (by simp) (by simp) (by kernel_rfl)
  obtain ⟨n, n1, n2, n3⟩ := h3.strs (e := 9) (by simp) (by simp) (by kernel_rfl)
  exact logic11_ev (RoRow.strs l1) (RoRow.strs m1) (RoRow.strs n1) (Nat.le_trans l2 (by decide)) (fun x hx => Nat.le_trans (l3 x hx) (by decide)) (Nat.le_trans m2 (by decide)) (fun x hx => Nat.le_trans (m3 x hx) (by decide)) (Nat.le_trans n2 (by decide)) (fun x hx => Nat.le_trans (n3 x hx) (by decide))
end Go.Proofs.Ytbamofeocfbjbaa
