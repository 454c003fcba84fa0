/- The law ExprBrackets: called, it comes to true; no condition. -/
import Derived.Test.YtbamofeocfbjbaaLogicA
import Derived.Test.YtbamofeocfbjbaaWorks11
namespace Go.Proofs.Ytbamofeocfbjbaa
open Go.Ab Go.Glob
theorem inB_small {W s : List Bs} (hx : ∀ x ∈ W, x.length ≤ 3000) (hs : ∀ x ∈ s, x.length ≤ 3000) : ∀ x ∈ inB W s, x.length ≤ 3000 := by
  intro x h
  simp only [inB, List.mem_cons, List.mem_append] at h
  rcases h with rfl | h | rfl | h
  · decide
  · exact hx x h
  · decide
  · exact hs x h
theorem inB_len (W s : List Bs) : (inB W s).length = W.length + s.length + 2 := by simp [inB]; omega
set_option maxHeartbeats 4000000 in
set_option maxRecDepth 6000 in
theorem brackets11_ev {h : Hp} {W : List Bs} {w : Value} (hw : SRow h w W) (hl : W.length ≤ 140737488355328) (hx : ∀ x ∈ W, x.length ≤ 140737488355328) :
    EvA Try.prog 6 [w] (fun r _ => r = .bool true) h := by
  refine EvA.body Try.func6 rfl (by kernel_rfl) (by simp) ?_
  apply Run.ok
  simp
  refine after_call (works11_ev _) ?_
  rintro r g ⟨rfl, rfl⟩
  simp
  refine after_call (large11_ev hw hl hx) ?_
  rintro r h ⟨⟨bl, rfl, hbl⟩, rfl⟩
  cases bl with
  | true =>
    simp
    refine after_call (works11_ev _) ?_
    rintro r g ⟨rfl, rfl⟩
    simp
  | false =>
    obtain ⟨hl, hx⟩ := hbl rfl
    have hsz : ∀ x ∈ W, x.length < 1000000000 := fun x hm => by have := hx x hm; omega
    have hszB : ∀ x ∈ inB W [], x.length < 1000000000 := fun x hm => by have := inB_small (s := []) hx (by simp) x hm; omega
    have hlB := inB_len W []
    simp only [List.length_nil] at hlB
    simp
    refine after_call (parse_ev hw (by omega) hsz) ?_
    rintro r g1 ⟨s1, q1⟩
    cases ho : valueE W with
    | bad e =>
      rw [ho] at q1
      obtain rfl := q1
      simp
      refine after_call (round_ev (hw.same s1) (by omega)) ?_
      rintro r2 g2 ⟨A2, s2⟩
      simp
      refine after_call (parse_ev (show SRow g2 r2 (inB W []) from A2.row) (by omega) hszB) ?_
      rintro r g3 ⟨s3, q3⟩
      cases ho2 : valueE (inB W []) with
      | bad e2 =>
        rw [ho2] at q3
        obtain rfl := q3
        rcases valueE_bad ho with rfl | rfl <;> rcases valueE_bad ho2 with rfl | rfl <;> simp
      | ok v t rest =>
        rw [ho2] at q3
        obtain ⟨_, b, rfl, R⟩ := q3
        rcases valueE_bad ho with rfl | rfl
        all_goals
          simp
          refine after_call (opens_ev (((hw.same s1).same s2).same s3) (by omega) (opens_of ho2)) ?_
          rintro r g ⟨rfl, rfl⟩
          simp
    | ok v t rest =>
      rw [ho] at q1
      obtain ⟨htl, b, rfl, R1⟩ := q1
      simp
      refine after_call (round_ev (hw.same s1) (by omega)) ?_
      rintro r2 g2 ⟨A2, s2⟩
      simp
      refine after_call (parse_ev (show SRow g2 r2 (inB W []) from A2.row) (by omega) hszB) ?_
      rintro r g3 ⟨s3, q3⟩
      cases ho2 : valueE (inB W []) with
      | bad e2 =>
        rw [ho2] at q3
        obtain rfl := q3
        simp
        refine after_call (plain11_ev (((hw.same s1).same s2).same s3) (by omega) hsz) ?_
        rintro r g4 ⟨s4, pb, rfl, hpl⟩
        cases pb with
        | false => simp
        | true =>
          obtain ⟨v', t', P⟩ := hpl rfl
          rcases brackets P with e | e
          · rw [ho2] at e; cases e
          · rw [ho2] at e; cases e
            simp
      | ok v2 t2 rest2 =>
        rw [ho2] at q3
        obtain ⟨htl2, b2, rfl, R2⟩ := q3
        simp
        refine after_call (plain11_ev (((hw.same s1).same s2).same s3) (by omega) hsz) ?_
        rintro r g4 ⟨s4, pb, rfl, hpl⟩
        cases pb with
        | false => simp
        | true =>
          obtain ⟨v', t', P⟩ := hpl rfl
          rcases brackets P with e | e
          · rw [ho2] at e; cases e
            have e := P.1
            rw [ho] at e; cases e
            have R1 := ((R1.same s2).same s3).same s4
            have R2 := R2.same s4
            have hw4 := (((hw.same s1).same s2).same s3).same s4
            simp
            refine after_call (words_ev R1 (by omega)) ?_
            rintro av g5 ⟨A5, s5⟩
            have R1 := R1.same s5
            have R2 := R2.same s5
            have hw5 := hw4.same s5
            simp
            refine after_call (parse_ev (show SRow g5 av W from A5.row) (by omega) hsz) ?_
            rintro r g6 ⟨s6, q6⟩
            rw [ho] at q6
            obtain ⟨_, b6, rfl, R6⟩ := q6
            have R1 := R1.same s6
            have R2 := R2.same s6
            have hw6 := hw5.same s6
            simp
            refine after_call (eval_ev R1) ?_
            rintro r g7 ⟨rfl, s7⟩
            have R1 := R1.same s7
            have R2 := R2.same s7
            have R6 := R6.same s7
            have hw7 := hw6.same s7
            simp
            refine after_call (eval_ev R2) ?_
            rintro r g8 ⟨rfl, s8⟩
            have R1 := R1.same s8
            have R2 := R2.same s8
            have R6 := R6.same s8
            have hw8 := hw7.same s8
            simp
            refine after_call (texts_ev R1 (by omega)) ?_
            rintro tv g9 ⟨A9, s9⟩
            have R1 := R1.same s9
            have R2 := R2.same s9
            have R6 := R6.same s9
            have hw9 := hw8.same s9
            have ql9 := QL A9
            simp [ql9]
            refine after_call (texts_ev R2 (by omega)) ?_
            rintro tv g10 ⟨A10, s10⟩
            have R1 := R1.same s10
            have R2 := R2.same s10
            have R6 := R6.same s10
            have hw10 := hw9.same s10
            have ql10 := QL A10
            simp [ql10]
            refine after_call (words_ev R2 (by omega)) ?_
            rintro tv g11 ⟨A11, s11⟩
            have R1 := R1.same s11
            have R2 := R2.same s11
            have R6 := R6.same s11
            have hw11 := hw10.same s11
            have ql11 := QL A11
            have wl11 := WL hw11
            have w1 : IntKind.i64.wrap ((W.length : Int) + 2) = (W.length : Int) + 2 := wrap_i64 (by omega) (by omega)
            have hB : (((inB W []).length : Nat) : Int) = (W.length : Int) + 2 := by omega
            simp [ql11, wl11, w1, hB]
            refine after_call (eval_ev R6) ?_
            rintro r g12 ⟨rfl, s12⟩
            have R1 := R1.same s12
            simp
            refine after_call (eval_ev R1) ?_
            rintro r g13 ⟨rfl, s13⟩
            simp
          · rw [ho2] at e; cases e
theorem exprBrackets_ev (h : Hp) (vs : List Value) (dts : List Dt) (hr : RepAll Try.prog h 6 [22] vs dts) : EvA Try.prog 6 vs (fun r _ => r = .bool true) h := by
  obtain ⟨a, vs, e, ds, rfl, rfl, h1, hr⟩ := hr.cons
  rw [hr.nil]
  obtain ⟨l, l1, l2, l3⟩ := h1.strs (e := 9) (by simp) (by simp) (by kernel_rfl)
  exact brackets11_ev (RoRow.strs l1) (Nat.le_trans l2 (by decide)) (fun x hx => Nat.le_trans (l3 x hx) (by decide))
end Go.Proofs.Ytbamofeocfbjbaa
