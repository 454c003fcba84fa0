/- bastionref29.one, bastionref29.Fires, bastionlaw29.large: what they answer; no condition. -/
import Derived.Test.YtojdhmkjegkfkaaFires
namespace Go.Proofs.Ytojdhmkjegkfkaa
open Go.Ab Go.Glob
theorem any_swap (a : List (List UInt8)) (t : List (List UInt8)) : t.any (anyM a) = a.any fun q => t.any fun s => M q s := by
  rw [Bool.eq_iff_iff]
  simp only [anyM, List.any_eq_true]
  exact ⟨fun ⟨s, h1, q, h2, h3⟩ => ⟨q, h2, s, h1, h3⟩, fun ⟨q, h2, s, h1, h3⟩ => ⟨s, h1, q, h2, h3⟩⟩
theorem rone_ev {h : Hp} {v tv : Value} {l : List It} {t : List (List UInt8)} (w : List UInt8) (hv : Items h v l) (ht : SRow h tv t)
    (hl : l.length ≤ 1000000000000) (ha : ∀ x ∈ l, x.args.length ≤ 1000000000000000) (htl : t.length ≤ 1000000000000) (hs : ∀ s ∈ t, s.length < 1000000000) :
    EvA Try.prog 46 [v, .string (bs w), tv] (fun r h' => h' = h ∧ r = .bool (fires l w t)) h := by
  refine EvA.body Try.func46 rfl (by kernel_rfl) (by simp) ?_
  apply Run.ok
  have hlen := hv.1.len (P := Try.prog) (t := 22) (e := 70) (by simp)
  have htlen := SRow.len (P := Try.prog) (t := 23) (e := 9) ht (by simp)
  simp
  refine WpA.loop (fun k fr h' => ∃ i, k = l.length - i ∧ i ≤ l.length ∧ fr 0 = v ∧ fr 1 = .string (bs w) ∧ fr 2 = tv ∧ fr 7 = .bool (thereW (l.take i) w) ∧ hits (l.take i) w t = false ∧ fr 8 = .int .i64 (i : Nat) ∧ h' = h)
    (k := l.length) ⟨0, by simp, by omega, by simp, by simp, by simp, by simp [thereW], by simp [hits], by simp, rfl⟩ ?_
  rintro k fr h' ⟨i, rfl, hi, f0, f1, f2, f7, hh, f8, rfl⟩
  apply Run.ok
  by_cases c : i < l.length
  · have c' : (i : Int) < l.length := by omega
    have w1 : IntKind.i64.wrap ((i : Int) + 1) = (i : Int) + 1 := wrap_i64 (by omega) (by omega)
    have ia := hv.1.ia (P := Try.prog) (t := 22) (e := 70) (by simp) (by simp) c .i64
    have ld1 := hv.1.cell (P := Try.prog) (f := 9) (j := 1) (by simp) c (by omega)
    have ld2 := hv.1.cell (P := Try.prog) (f := 23) (j := 2) (by simp) c (by omega)
    have htk := take_snoc c
    have hxm : l[i] ∈ l := List.getElem_mem _
    generalize l[i] = x at ld1 ld2 htk hxm
    simp only [It.cells, List.getElem?_cons_succ, List.getElem?_cons_zero, str] at ld1 ld2
    have hth : thereW (l.take (i + 1)) w = (thereW (l.take i) w || decide (x.word = w)) := by rw [htk, thereW_snoc]
    have hht : hits (l.take (i + 1)) w t = (decide (x.word = w) && t.any (anyM x.args)) := by rw [htk, hits_snoc, hh]; simp
    have hxv := hv.2 x hxm
    have hxl := ha x hxm
    have hxlen := SRow.len (P := Try.prog) (t := 23) (e := 9) hxv (by simp)
    by_cases hw : x.word = w
    · simp [f0, f1, f2, f7, f8, hlen, c', ia, ld1, hw, -load_ptr]
      refine WpA.loop (fun k fr h2 => ∃ q, k = x.args.length - q ∧ q ≤ x.args.length ∧ fr 0 = v ∧ fr 1 = .string (bs w) ∧ fr 2 = tv ∧ fr 7 = .bool true ∧ fr 8 = .int .i64 (i : Nat) ∧ fr 9 = .int .i64 (q : Nat) ∧ h2 = h' ∧ ∀ a ∈ x.args.take q, (t.any fun s => M a s) = false)
        (k := x.args.length) ⟨0, by simp, by omega, by simp [f0], by simp [f1], by simp [f2], by simp, by simp [f8], by simp, rfl, by simp⟩ ?_
      rintro k fr h2 ⟨q, rfl, hq, f0, f1, f2, f7, f8, f9, rfl, hno⟩
      apply Run.ok
      by_cases c2 : q < x.args.length
      · have c2' : (q : Int) < x.args.length := by omega
        have w2 : IntKind.i64.wrap ((q : Int) + 1) = (q : Int) + 1 := wrap_i64 (by omega) (by omega)
        have iq := SRow.ia (P := Try.prog) (t := 23) (e := 9) hxv (by simp) (by simp) c2 .i64
        have lq := SRow.ld (P := Try.prog) (f := 9) hxv (by simp) c2
        have hatk := take_snoc c2
        have ham : x.args[q] ∈ x.args := List.getElem_mem _
        generalize x.args[q] = a at lq hatk ham
        simp [f0, f1, f2, f7, f8, f9, ia, ld2, hxlen, c2', -load_ptr]
        refine WpA.loop (fun k fr h3 => ∃ j, k = t.length - j ∧ j ≤ t.length ∧ fr 0 = v ∧ fr 1 = .string (bs w) ∧ fr 2 = tv ∧ fr 7 = .bool true ∧ fr 8 = .int .i64 (i : Nat) ∧ fr 9 = .int .i64 (q : Nat) ∧ fr 10 = .int .i64 (j : Nat) ∧ h3 = h2 ∧ ∀ s ∈ t.take j, M a s = false)
          (k := t.length) ⟨0, by simp, by omega, by simp [f0], by simp [f1], by simp [f2], by simp [f7], by simp [f8], by simp [f9], by simp, rfl, by simp⟩ ?_
        rintro k fr h3 ⟨j, rfl, hj, f0, f1, f2, f7, f8, f9, f10, rfl, hno2⟩
        apply Run.ok
        by_cases c3 : j < t.length
        · have c3' : (j : Int) < t.length := by omega
          have w3 : IntKind.i64.wrap ((j : Int) + 1) = (j : Int) + 1 := wrap_i64 (by omega) (by omega)
          have ij := SRow.ia (P := Try.prog) (t := 23) (e := 9) ht (by simp) (by simp) c3 .i64
          have lj := SRow.ld (P := Try.prog) (f := 9) ht (by simp) c3
          have hstk := take_snoc c3
          have hsm : t[j] ∈ t := List.getElem_mem _
          generalize t[j] = s at lj hstk hsm
          simp [f0, f1, f2, f7, f8, f9, f10, htlen, c3', -load_ptr]
          refine WpA.drawnA [0, 1, 2, 3, 4, 5, 6, 7, 8, 9, 10, 11, 12] [[], [], [], [], [], [], [], [], [], [], [], [], [0, 1, 2, 3, 4, 5, 6, 7, 8, 9, 10, 11]] (by kernel_rfl) (by decide +kernel) (by decide +kernel) ?_
          simp [f0, f1, f2, f7, f8, f9, f10, ia, ld2, iq, lq, ij, lj, -load_ptr]
          refine after_call (rmatch_ev a s _ (hs s hsm)) ?_
          rintro r h4 ⟨rfl, rfl⟩
          cases hm : M a s with
          | true =>
            have hfi : fires l w t = true := by
              have : hits l w t = true := by
                refine List.any_eq_true.2 ⟨x, hxm, ?_⟩
                rw [any_swap]
                simp only [hw, decide_true, Bool.true_and]
                exact List.any_eq_true.2 ⟨a, ham, List.any_eq_true.2 ⟨s, hsm, hm⟩⟩
              simp [fires, this]
            simp [ia, ld2, iq, lq, ij, lj, f0, f1, f2, f7, f8, f9, f10, hfi, -load_ptr]
          | false =>
            simp [ia, ld2, iq, lq, ij, lj, f0, f1, f2, f7, f8, f9, f10, w3, -load_ptr, -roundQ_normal, ↓rq]
            refine stop_intro ⟨t.length - (j + 1), by omega, j + 1, rfl, by omega, by simp [f0], by simp [f1], by simp [f2], by simp [f7], by simp [f8], by simp [f9], by simp, rfl, fun s' hs' => ?_⟩
            rw [hstk] at hs'
            rcases List.mem_append.1 hs' with h1 | h1
            · exact hno2 _ h1
            · simp at h1; subst h1; exact hm
        · have c3' : ¬ (j : Int) < t.length := by omega
          rw [List.take_of_length_le (by omega)] at hno2
          simp [f0, f1, f2, f7, f8, f9, f10, htlen, c3', w2, -roundQ_normal, ↓rq]
          refine stop_intro ⟨x.args.length - (q + 1), by omega, q + 1, rfl, by omega, by simp [f0], by simp [f1], by simp [f2], by simp [f7], by simp [f8], by simp, rfl, fun a' ha' => ?_⟩
          rw [hatk] at ha'
          rcases List.mem_append.1 ha' with h1 | h1
          · exact hno _ h1
          · simp at h1; subst h1; simpa using hno2
      · have c2' : ¬ (q : Int) < x.args.length := by omega
        rw [List.take_of_length_le (by omega)] at hno
        have hx0 : t.any (anyM x.args) = false := by
          rw [any_swap]; rw [List.any_eq_false]; intro a ha'; rw [hno a ha']; simp
        simp [f0, f1, f2, f7, f8, f9, ia, ld2, hxlen, c2', w1, -load_ptr, -roundQ_normal, ↓rq]
        refine stop_intro ⟨l.length - (i + 1), by omega, i + 1, rfl, by omega, by simp [f0], by simp [f1], by simp [f2], by simp [f7, hth, hw], by rw [hht, hx0]; simp, by simp, rfl⟩
    · simp [f0, f1, f2, f7, f8, hlen, c', ia, ld1, hw, w1, -load_ptr, -roundQ_normal, ↓rq]
      refine stop_intro ⟨l.length - (i + 1), by omega, i + 1, rfl, by omega, by simp [f0], by simp [f1], by simp [f2], by simp [f7, hth, hw], by rw [hht]; simp [hw], by simp, rfl⟩
  · have c' : ¬ (i : Int) < l.length := by omega
    rw [List.take_of_length_le (by omega)] at f7 hh
    simp [f0, f7, f8, hlen, c', fires, hh]
theorem rfires_ev {h : Hp} {v tv : Value} {l : List It} {t : List (List UInt8)} (ref : List UInt8) (hv : Items h v l) (ht : SRow h tv t)
    (hl : l.length ≤ 1000000000000) (ha : ∀ x ∈ l, x.args.length ≤ 1000000000000000) (htl : t.length ≤ 1000000000000) (hs : ∀ s ∈ t, s.length < 1000000000) (hr : ref.length < 1000000000) :
    EvA Try.prog 17 [v, .string (bs ref), tv] (fun r h' => h' = h ∧ r = .bool (fires l [111, 110] [ref] && fires l [112, 97, 116, 104, 115] t)) h := by
  refine EvA.forget (Q := fun r => r = .bool (fires l [111, 110] [ref] && fires l [112, 97, 116, 104, 115] t)) ?_
  refine EvA.body Try.func17 rfl (by kernel_rfl) (by simp) ?_
  apply Run.ok
  simp [zeros, capO, spl]
  refine after_call (rone_ev (t := [ref]) [111, 110] (hv.same (Same.new _)) (SRow.lit h ref) hl ha (by simp) (by simpa using hr)) ?_
  rintro r h' ⟨rfl, rfl⟩
  cases h1 : fires l [111, 110] [ref] with
  | false => simp [flat, ground]
  | true =>
    simp
    refine after_call (rone_ev [112, 97, 116, 104, 115] (hv.same (Same.new _)) (ht.same (Same.new _)) hl ha htl hs) ?_
    rintro r h' ⟨rfl, rfl⟩
    simp [flat, ground]
end Go.Proofs.Ytojdhmkjegkfkaa
