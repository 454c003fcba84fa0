/- bastionlaw29's large and to; the law TriggerFires; no condition. -/
import Derived.Test.YtojdhmkjegkfkaaFiresB
namespace Go.Proofs.Ytojdhmkjegkfkaa
open Go.Ab Go.Glob
theorem large_ev {h : Hp} {v tv : Value} {l : List It} {t : List (List UInt8)} (hv : Items h v l) (ht : SRow h tv t)
    (hl : l.length ≤ 140737488351232) (ha : ∀ x ∈ l, x.args.length ≤ 140737488351232 ∧ ∀ a ∈ x.args, a.length ≤ 140737488351232) (htl : t.length ≤ 140737488351232) (hs : ∀ s ∈ t, s.length ≤ 140737488351232) :
    EvA Try.prog 14 [v, tv] (fun r h' => h' = h ∧ ∃ b, r = .bool b ∧ (b = false → l.length ≤ 3000 ∧ t.length ≤ 3000 ∧ (∀ s ∈ t, s.length ≤ 3000) ∧ ∀ x ∈ l, x.args.length ≤ 3000)) h := by
  refine EvA.body Try.func14 rfl (by kernel_rfl) (by simp) ?_
  apply Run.ok
  have hlen := hv.1.len (P := Try.prog) (t := 22) (e := 70) (by simp)
  have htlen := SRow.len (P := Try.prog) (t := 23) (e := 9) ht (by simp)
  simp
  -- what is known of the number of things
  refine WpA.loop (fun k fr h' => ∃ (i : Nat) (n : Int), k = l.length - i ∧ i ≤ l.length ∧ fr 0 = v ∧ fr 1 = tv ∧ fr 5 = .int .i64 n ∧ fr 6 = .int .i64 (i : Nat) ∧ h' = h ∧ 0 ≤ n ∧ n ≤ 281474976710656 ∧ (n < 3000 → i ≤ n ∧ ∀ x ∈ l.take i, x.args.length ≤ 3000))
    (k := l.length) ⟨0, 0, by simp, by omega, by simp, by simp, by simp, by simp, rfl, by omega, by omega, by simp⟩ ?_
  rintro k fr h' ⟨i, n, rfl, hi, f0, f1, f5, f6, rfl, hn0, hn1, hn2⟩
  apply Run.ok
  by_cases c : i < l.length ∧ n < 3000
  · obtain ⟨c, cn⟩ := c
    have c' : (i : Int) < l.length := by omega
    have w0 : IntKind.i64.wrap (n + 10) = n + 10 := wrap_i64 (by omega) (by omega)
    have w1 : IntKind.i64.wrap ((i : Int) + 1) = (i : Int) + 1 := wrap_i64 (by omega) (by omega)
    have ia := hv.1.ia (P := Try.prog) (t := 22) (e := 70) (by simp) (by simp) c .i64
    have ld2 := hv.1.cell (P := Try.prog) (f := 23) (j := 2) (by simp) c (by omega)
    have htk := take_snoc c
    have hxm : l[i] ∈ l := List.getElem_mem _
    generalize l[i] = x at ld2 htk hxm
    simp only [It.cells, List.getElem?_cons_succ, List.getElem?_cons_zero] at ld2
    have hxv := hv.2 x hxm
    obtain ⟨hxl, hxa⟩ := ha x hxm
    have hxlen := SRow.len (P := Try.prog) (t := 23) (e := 9) hxv (by simp)
    simp [f0, f1, f5, f6, hlen, c', cn, w0]
    obtain ⟨hin, htn⟩ := hn2 cn
    refine WpA.loop (fun k fr h2 => ∃ (q : Nat) (m : Int), k = x.args.length - q ∧ q ≤ x.args.length ∧ fr 0 = v ∧ fr 1 = tv ∧ fr 5 = .int .i64 m ∧ fr 6 = .int .i64 (i : Nat) ∧ fr 7 = .int .i64 (q : Nat) ∧ h2 = h' ∧ n + 10 ≤ m ∧ m ≤ 281474976710656 ∧ (m < 3000 → n + 10 + q ≤ m))
      (k := x.args.length) ⟨0, n + 10, by simp, by omega, by simp [f0], by simp [f1], by simp, by simp [f6], by simp, rfl, by omega, by omega, by omega⟩ ?_
    rintro k fr h2 ⟨q, m, rfl, hq, f0, f1, f5, f6, f7, rfl, hm0, hm1, hm2⟩
    apply Run.ok
    by_cases c2 : q < x.args.length
    · have c2' : (q : Int) < x.args.length := by omega
      by_cases cm : m < 3000
      · have iq := SRow.ia (P := Try.prog) (t := 23) (e := 9) hxv (by simp) (by simp) c2 .i64
        have lq := SRow.ld (P := Try.prog) (f := 9) hxv (by simp) c2
        have hal := hxa x.args[q] (List.getElem_mem _)
        generalize x.args[q] = a at lq hal
        have w2 : IntKind.i64.wrap ((q : Int) + 1) = (q : Int) + 1 := wrap_i64 (by omega) (by omega)
        have w3 : IntKind.i64.wrap (m + 1) = m + 1 := wrap_i64 (by omega) (by omega)
        have w4 : IntKind.i64.wrap (m + 1 + a.length) = m + 1 + a.length := wrap_i64 (by omega) (by omega)
        simp [f0, f1, f5, f6, f7, ia, ld2, hxlen, c2', cm, iq, lq, w2, w3, w4, -load_ptr, -roundQ_normal, ↓rq]
        have hm3 := hm2 cm
        refine stop_intro ⟨x.args.length - (q + 1), by omega, q + 1, m + 1 + a.length, rfl, by omega, by simp [f0], by simp [f1], by simp, by simp [f6], by simp, rfl, by omega, by omega, by omega⟩
      · simp [f0, f1, f5, f6, f7, ia, ld2, hxlen, c2', cm, w1, -load_ptr, -roundQ_normal, ↓rq]
        refine stop_intro ⟨l.length - (i + 1), by omega, i + 1, m, rfl, by omega, by simp [f0], by simp [f1], by simp [f5], by simp, rfl, by omega, by omega, fun h => absurd h cm⟩
    · have c2' : ¬ (q : Int) < x.args.length := by omega
      simp [f0, f1, f5, f6, f7, ia, ld2, hxlen, c2', w1, -load_ptr, -roundQ_normal, ↓rq]
      refine stop_intro ⟨l.length - (i + 1), by omega, i + 1, m, rfl, by omega, by simp [f0], by simp [f1], by simp [f5], by simp, rfl, by omega, by omega, fun h => ⟨by have := hm2 h; omega, fun y hy => ?_⟩⟩
      rw [htk] at hy
      rcases List.mem_append.1 hy with h1 | h1
      · exact htn y h1
      · simp at h1; subst h1; have := hm2 h; omega
  · have hex : (i : Int) < l.length → ¬ n < 3000 := fun h1 h2 => c ⟨by omega, h2⟩
    have htest : (if (i : Int) < l.length then decide (n < 3000) else false) = false := by
      by_cases h1 : (i : Int) < l.length
      · rw [if_pos h1]; simpa using hex h1
      · rw [if_neg h1]
    have hn3 : n < 3000 → l.length ≤ n ∧ ∀ x ∈ l, x.args.length ≤ 3000 := fun h1 => by
      have hil : i = l.length := by
        rcases Nat.lt_or_ge i l.length with h2 | h2
        · exact absurd h1 (hex (by omega))
        · omega
      have := hn2 h1
      rw [hil, List.take_of_length_le (Nat.le_refl _)] at this
      exact this
    by_cases c1 : (i : Int) < l.length
    case' pos => simp [f0, f1, f5, f6, hlen, c1, hex c1]
    case' neg => simp [f0, f1, f5, f6, hlen, c1]
    all_goals
      refine WpA.loop (fun k fr h2 => ∃ (j : Nat) (m : Int), k = t.length - j ∧ j ≤ t.length ∧ fr 1 = tv ∧ fr 5 = .int .i64 m ∧ fr 8 = .int .i64 (j : Nat) ∧ h2 = h' ∧ n ≤ m ∧ m ≤ 562949953421312 ∧ (m < 3000 → n + j ≤ m ∧ ∀ s ∈ t.take j, s.length ≤ 3000))
        (k := t.length) ⟨0, n, by simp, by omega, by simp [f1], by simp [f5], by simp, rfl, by omega, by omega, by simp⟩ ?_
      rintro k fr h2 ⟨j, m, rfl, hj, f1, f5, f8, rfl, hm0, hm1, hm2⟩
      apply Run.ok
      by_cases c2 : j < t.length
      · have c2' : (j : Int) < t.length := by omega
        by_cases cm : m < 3000
        · have ij := SRow.ia (P := Try.prog) (t := 23) (e := 9) ht (by simp) (by simp) c2 .i64
          have lj := SRow.ld (P := Try.prog) (f := 9) ht (by simp) c2
          have htk := take_snoc c2
          have hsl := hs t[j] (List.getElem_mem _)
          generalize t[j] = s at lj htk hsl
          have w2 : IntKind.i64.wrap ((j : Int) + 1) = (j : Int) + 1 := wrap_i64 (by omega) (by omega)
          have w3 : IntKind.i64.wrap (m + 1) = m + 1 := wrap_i64 (by omega) (by omega)
          have w4 : IntKind.i64.wrap (m + 1 + s.length) = m + 1 + s.length := wrap_i64 (by omega) (by omega)
          simp [f1, f5, f8, htlen, c2', cm, ij, lj, w2, w3, w4, -load_ptr, -roundQ_normal, ↓rq]
          have hm3 := hm2 cm
          refine stop_intro ⟨t.length - (j + 1), by omega, j + 1, m + 1 + s.length, rfl, by omega, by simp [f1], by simp, by simp, rfl, by omega, by omega, fun h => ⟨by omega, fun s' hs' => ?_⟩⟩
          rw [htk] at hs'
          rcases List.mem_append.1 hs' with h1 | h1
          · exact hm3.2 _ h1
          · simp at h1; subst h1; omega
        · have cm' : 3000 ≤ m := by omega
          simp [f1, f5, f8, htlen, c2', cm, cm']
      · have c2' : ¬ (j : Int) < t.length := by omega
        rw [List.take_of_length_le (by omega)] at hm2
        simp [f1, f5, f8, htlen, c2']
        intro hm3
        have h1 := hm2 (by omega)
        have h2 := hn3 (by omega)
        exact ⟨by omega, by omega, h1.2, h2.2⟩
end Go.Proofs.Ytojdhmkjegkfkaa
