/- The law GlobPicks: called, it comes to true; no condition. -/
import Derived.Test.YtojdhmkjegkfkaaPickLaw
namespace Go.Proofs.Ytojdhmkjegkfkaa
open Go.Ab Go.Glob
theorem picks_ev {h : Hp} {v w : Value} {p l : List (List UInt8)} (hv : SRow h v p) (hw : SRow h w l) (bp : p.length ≤ 140737488351232) (bl : l.length ≤ 140737488351232) (cp : ∀ x ∈ p, x.length ≤ 140737488351232) (cl : ∀ x ∈ l, x.length ≤ 140737488351232) :
    EvA Try.prog 5 [v, w] (fun r _ => r = .bool true) h := by
  refine EvA.body Try.func5 rfl (by kernel_rfl) (by simp) ?_
  apply Run.ok
  simp
  refine after_call (long_ev hv bp cp) ?_
  rintro r h' ⟨rfl, b1, rfl, hb1⟩
  cases b1 with
  | true =>
    simp
    refine after_call (awake_ev _) ?_
    rintro r h' ⟨rfl, rfl⟩
    simp
  | false =>
    simp
    refine after_call (long_ev hw bl cl) ?_
    rintro r h' ⟨rfl, b2, rfl, hb2⟩
    cases b2 with
    | true =>
      simp
      refine after_call (awake_ev _) ?_
      rintro r h' ⟨rfl, rfl⟩
      simp
    | false =>
      obtain ⟨lp, sp⟩ := hb1 rfl
      obtain ⟨ll, sl⟩ := hb2 rfl
      have sl' : ∀ x ∈ l, x.length < 1000000000 := fun x hx => by have := sl x hx; omega
      obtain ⟨v1, h1, e1, a1, u1⟩ := appStrs (k := h'.length) (h := h' ++ [.cells [] false none]) (v := .slice (some ⟨h'.length, 0, none⟩) 0 0) (l := []) (m := l) ⟨by simp, .inr (.inl ⟨h'.length, rfl, rfl, Nat.le_refl _, by simp⟩)⟩ (by simp) (hw.same (Same.new _)) (by simp; omega)
      have sm1 : Same h' h1 := Upd.trans (Same.new _) u1 fun j hj hin => absurd (inRow_rbl hin) (by simp [rbl]; omega)
      simp only [List.nil_append] at a1
      simp [zeros, capO, e1]
      refine WpA.loop (fun k fr h2 => ∃ i, k = l.length - i ∧ i ≤ l.length ∧ fr 0 = v ∧ fr 1 = w ∧ fr 5 = v1 ∧ fr 6 = .int .i64 (i : Nat) ∧ h2 = h1)
        (k := l.length) ⟨0, by simp, by omega, by simp, by simp, by simp, by simp, rfl⟩ ?_
      rintro k fr h2 ⟨i, rfl, hi, f0, f1, f5, f6, rfl⟩
      apply Run.ok
      have hv2 := hv.same sm1
      have hw2 := hw.same sm1
      have hlen := SRow.len (P := Try.prog) (t := 23) (e := 9) hw2 (by simp)
      by_cases c : i < l.length
      · have c' : (i : Int) < l.length := by omega
        have w1 : IntKind.i64.wrap ((i : Int) + 1) = (i : Int) + 1 := wrap_i64 (by omega) (by omega)
        have ia := SRow.ia (P := Try.prog) (t := 23) (e := 9) hw2 (by simp) (by simp) c .i64
        have ld := SRow.ld (P := Try.prog) (f := 9) hw2 (by simp) c
        have hli := sl' _ (List.getElem_mem c)
        simp [f0, f1, f5, f6, hlen, c']
        refine WpA.drawnA [0, 1, 2, 3, 4, 6, 7, 8, 9, 10, 5, 11, 12] [[], [], [], [], [], [0, 1, 2, 3, 4], [], [], [], [], [], [0, 1, 2, 3, 4, 5, 6, 7, 8, 9, 10]] (by kernel_rfl) (by decide +kernel) (by decide +kernel) ?_
        simp [f0, f1, f5, f6, ia, ld, -load_ptr]
        refine after_call (any_ev l[i] hv2 (by omega) hli) ?_
        rintro r h3 ⟨rfl, rfl⟩
        simp [ld, -load_ptr]
        refine after_call (rany_ev l[i] hv2 (by omega) hli) ?_
        rintro r h3 ⟨rfl, rfl⟩
        simp [ld, f0, f1, f5, f6, w1, -load_ptr, -roundQ_normal, ↓rq]
        refine stop_intro ⟨l.length - (i + 1), by omega, i + 1, rfl, by omega, by simp [f0], by simp [f1], by simp [f5], by simp, rfl⟩
      · have c' : ¬ (i : Int) < l.length := by omega
        simp [f0, f1, f5, f6, hlen, c']
        refine after_call (rpick_ev hv2 hw2 (by omega) (by omega) sl') ?_
        rintro r h3 ⟨ha3, sm3⟩
        have a3 := a1.same sm3
        simp [f0, f1, f5]
        refine after_call (gpick_ev (hv2.same sm3) a3.row (by omega) (by omega) sl') ?_
        rintro r4 h4 ⟨ha4, sm4⟩
        have fl : (l.filter (anyM p)).length ≤ l.length := List.length_filter_le _ _
        simp
        refine after_call (same_ev ha4.row (SRow.same (l := l.filter (anyM p)) ha3.row sm4) (by omega)) ?_
        rintro r5 h5 ⟨rfl, rfl⟩
        simp
        refine WpA.loop (fun k fr h6 => ∃ i cur, k = (l.filter (anyM p)).length - i ∧ i ≤ (l.filter (anyM p)).length ∧ fr 0 = v ∧ fr 1 = w ∧ fr 5 = v1 ∧ fr 7 = r ∧ fr 8 = r4 ∧ fr 9 = .int .i64 (i : Nat) ∧ Upd (fun j => j = rbl r4 ∧ l.filter (anyM p) ≠ []) h5 h6 ∧ Wr h3.length h6 1 r4 (l.filter (anyM p)).length cur)
          (k := (l.filter (anyM p)).length) ⟨0, _, by simp, by omega, by simp [f0], by simp [f1], by simp [f5], by simp, by simp, by simp, Upd.refl, ha4⟩ ?_
        rintro k fr h6 ⟨i6, cur, rfl, hi6, f0, f1, f5, f7, f8, f9, up6, ha6⟩
        apply Run.ok
        have hlen6 := Row.len (P := Try.prog) (t := 23) (e := 9) ha6.row (by simp)
        by_cases c6 : i6 < (l.filter (anyM p)).length
        · have c6' : (i6 : Int) < (l.filter (anyM p)).length := by omega
          have w6 : IntKind.i64.wrap ((i6 : Int) + 1) = (i6 : Int) + 1 := wrap_i64 (by omega) (by omega)
          have ia6 := Row.ia1 (P := Try.prog) (t := 23) (e := 9) ha6.row (by simp) (by simp) c6 .i64
          obtain ⟨h7, e7, a7, u7, _⟩ := ha6.store1 (P := Try.prog) (e := 9) (x := .string ⟨#[115, 112, 111, 105, 108, 116]⟩) (by simp) rfl c6
          simp [f8, f9, hlen6, c6', ia6, e7, w6, -store_ptr, -roundQ_normal, ↓rq]
          have hne : l.filter (anyM p) ≠ [] := by intro h0; rw [h0] at c6; simp at c6
          refine stop_intro ⟨(l.filter (anyM p)).length - (i6 + 1), by omega, i6 + 1, _, rfl, by omega, by simp [f0], by simp [f1], by simp [f5], by simp [f7], by simp [f8], by simp, Upd.trans up6 (u7.mono fun _ _ h => ⟨h, hne⟩) (fun _ _ h => h), a7⟩
        · have c6' : ¬ (i6 : Int) < (l.filter (anyM p)).length := by omega
          simp [f0, f1, f5, f7, f8, f9, hlen6, c6']
          have hab : l.filter (anyM p) ≠ [] → h3.length ≤ rbl r4 := fun h0 => by
            have := ha4.above (by cases hq : l.filter (anyM p) with | nil => exact absurd hq h0 | cons _ _ => simp)
            exact this.1
          have k1 : ∀ {x : Value} {m : List (List UInt8)}, SRow h3 x m → SRow h6 x m := fun {x m} hx => by
            refine (hx.same sm4).keep up6 fun h0 hS => ?_
            have h1 := Row.lt hx h0
            have h2 := hab hS.2
            omega
          have hin6 := k1 (m := l) (x := v1) a3.row
          refine after_call (same_ev hin6 (k1 (hw2.same sm3)) (by omega)) ?_
          rintro r8 h8 ⟨rfl, rfl⟩
          simp [f0, f1, f5, f7]
          refine after_call (gpick_ev (k1 (hv2.same sm3)) hin6 (by omega) (by omega) sl') ?_
          rintro r9 h9 ⟨ha9, sm9⟩
          simp [f7]
          refine after_call (same_ev (l := l.filter (anyM p)) (m := l.filter (anyM p)) ha9.row ((k1 (m := l.filter (anyM p)) ha3.row).same sm9) (by omega)) ?_
          rintro r10 h10 ⟨rfl, rfl⟩
          simp
          refine after_call (awake_ev _) ?_
          rintro r11 h11 ⟨rfl, rfl⟩
          simp
theorem globPicks_ev (h : Hp) (vs : List Value) (dts : List Dt) (hr : RepAll Try.prog h 6 [23, 23] vs dts) : EvA Try.prog 5 vs (fun r _ => r = .bool true) h := by
  obtain ⟨a, vs, d, ds, rfl, rfl, h1, hr⟩ := hr.cons
  obtain ⟨b, vs, e, ds, rfl, rfl, h2, hr⟩ := hr.cons
  rw [hr.nil]
  obtain ⟨p, p1, p2, p3⟩ := h1.strs (e := 9) (by simp) (by simp) (by kernel_rfl)
  obtain ⟨l, l1, l2, l3⟩ := h2.strs (e := 9) (by simp) (by simp) (by kernel_rfl)
  exact picks_ev p1.strs l1.strs p2 l2 p3 l3
end Go.Proofs.Ytojdhmkjegkfkaa
