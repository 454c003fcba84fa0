/- The laws GlobSelf and GlobTogether: they come to true; no condition. -/
import Derived.Test.YtlailailmhdgnaaLawGlobA
import Derived.Test.YtlailailmhdgnaaPGlobB
namespace Go.Proofs.Ytlailailmhdgnaa
open Go.Ab Go.Glob
set_option maxHeartbeats 1000000 in
theorem globSelf_ev (a b : ByteArray) : EvA Try.prog 12 [.string a, .string b] (fun r _ => r = .bool true) [] := by
  rw [← bs_self a, ← bs_self b]
  generalize a.data.toList = p
  generalize b.data.toList = s
  refine EvA.body Try.func12 rfl (by kernel_rfl) (by simp) ?_
  apply Run.ok
  have u42 : ∀ c : UInt8, (((c.toNat : Nat) : Int) == 42) = decide (c = 42) := fun c => u8_beq c 42 42 rfl
  have u63 : ∀ c : UInt8, (((c.toNat : Nat) : Int) == 63) = decide (c = 63) := fun c => u8_beq c 63 63 rfl
  have u47 : ∀ c : UInt8, (((c.toNat : Nat) : Int) == 47) = decide (c = 47) := fun c => u8_beq c 47 47 rfl
  by_cases c0 : 300 < p.length ∨ 2000 < s.length
  · rcases c0 with c0 | c0
    · have c1' : (300 : Int) < p.length := by omega
      simp [c1']
      refine after_call (awake_ev _) ?_
      rintro r h' ⟨rfl, rfl⟩
      simp
    · have c2' : (2000 : Int) < s.length := by omega
      by_cases c1 : (300 : Int) < p.length
      all_goals
        simp [c1, c2']
        refine after_call (awake_ev _) ?_
        rintro r h' ⟨rfl, rfl⟩
        simp
  · have c1' : ¬ (300 : Int) < p.length := by omega
    have c2' : ¬ (2000 : Int) < s.length := by omega
    simp [c1', c2']
    refine after_call (awake_ev _) ?_
    rintro r h' ⟨rfl, rfl⟩
    simp
    refine WpA.loop (fun k fr h' => ∃ i, k = s.length - i ∧ i ≤ s.length ∧ fr 0 = .string (bs p) ∧ fr 1 = .string (bs s) ∧ fr 5 = .bool ((s.take i).any (· == 47)) ∧ fr 6 = .int .i64 (i : Nat) ∧ h' = []) (k := s.length)
      ⟨0, by simp, by omega, by simp, by simp, by simp, by simp, rfl⟩ ?_
    rintro k fr h' ⟨i, rfl, hi, f0, f1, f5, f6, rfl⟩
    apply Run.ok
    by_cases c : i < s.length
    · have c' : (i : Int) < s.length := by omega
      have w1 : IntKind.i64.wrap ((i : Int) + 1) = (i : Int) + 1 := wrap_i64 (by omega) (by omega)
      obtain ⟨si, hsi⟩ : ∃ si, s[i]? = some si := ⟨s[i], List.getElem?_eq_getElem c⟩
      have htk : (s.take (i + 1)).any (· == 47) = ((s.take i).any (· == 47) || decide (si = 47)) := by
        rw [List.take_add_one, hsi]
        simp only [Option.toList_some, List.any_append, List.any_cons, List.any_nil, Bool.or_false]
        congr 1
      cases hb : (s.take i).any (· == 47) with
      | true =>
        rw [hb] at f5 htk
        simp [f0, f1, f5, f6, c', w1]
        refine ⟨s.length - (i + 1), by omega, i + 1, rfl, by omega, ?_, by simp⟩
        simpa using htk
      | false =>
        rw [hb] at f5 htk
        simp [f0, f1, f5, f6, c', w1, hsi, u47]
        refine ⟨s.length - (i + 1), by omega, i + 1, rfl, by omega, ?_, by simp⟩
        rw [htk]; simp
    · have c' : ¬ (i : Int) < s.length := by omega
      rw [List.take_of_length_le (by omega)] at f5
      simp [f1, f6, c']
      refine after_call (match_ev [42, 42] s _ (by omega)) ?_
      rintro r h' ⟨rfl, rfl⟩
      simp [M_two, f1]
      refine after_call (match_ev [42] s _ (by omega)) ?_
      rintro r h' ⟨rfl, rfl⟩
      have hne : ((!(s.any (· == 47))) == s.any (· == 47)) = false := by cases s.any (· == 47) <;> rfl
      simp [M_one, f5, hne]
      refine WpA.loop (fun k fr h' => ∃ i, k = p.length - i ∧ i ≤ p.length ∧ fr 0 = .string (bs p) ∧ fr 1 = .string (bs s) ∧ fr 7 = .int .i64 (i : Nat) ∧ h' = [] ∧ ∀ c ∈ p.take i, c ≠ 42 ∧ c ≠ 63) (k := p.length)
        ⟨0, by simp, by omega, by simp [f0], by simp [f1], by simp, rfl, by simp⟩ ?_
      rintro k fr h' ⟨i, rfl, hi, f0, f1, f7, rfl, hall⟩
      apply Run.ok
      by_cases c : i < p.length
      · have c' : (i : Int) < p.length := by omega
        have w1 : IntKind.i64.wrap ((i : Int) + 1) = (i : Int) + 1 := wrap_i64 (by omega) (by omega)
        obtain ⟨pi, hpi⟩ : ∃ pi, p[i]? = some pi := ⟨p[i], List.getElem?_eq_getElem c⟩
        by_cases d1 : pi = 42
        · simp [f0, f7, c', hpi, u42, d1]
        · by_cases d2 : pi = 63
          · simp [f0, f7, c', hpi, u42, u63, d1, d2]
          · simp [f0, f7, c', hpi, u42, u63, d1, d2, w1]
            refine ⟨p.length - (i + 1), by omega, i + 1, rfl, by omega, f1, by simp, ?_⟩
            intro d hd
            rw [List.take_add_one, hpi] at hd
            rcases List.mem_append.1 hd with h1 | h1
            · exact hall d h1
            · simp at h1; subst h1; exact ⟨d1, d2⟩
      · have c' : ¬ (i : Int) < p.length := by omega
        rw [List.take_of_length_le (by omega)] at hall
        simp [f0, f1, f7, c']
        refine after_call (match_ev p s _ (by omega)) ?_
        rintro r h' ⟨rfl, rfl⟩
        rw [M_plain p s hall]
        by_cases d : p = s
        · simp [f0, f1, d]
          refine after_call (check_ev s _) ?_
          rintro r h' ⟨rfl, rfl⟩
          simp [d]
        · simp [f0, f1, d]
theorem last_get (p : List UInt8) (h : p ≠ []) : p[p.length - 1]? = p.getLast? := by
  rw [List.getLast?_eq_getElem?]
set_option maxHeartbeats 1000000 in
theorem globTogether_ev (a b c : ByteArray) : EvA Try.prog 13 [.string a, .string b, .string c] (fun r _ => r = .bool true) [] := by
  rw [← bs_self a, ← bs_self b, ← bs_self c]
  generalize a.data.toList = p
  generalize b.data.toList = q
  generalize c.data.toList = s
  refine EvA.body Try.func13 rfl (by kernel_rfl) (by simp) ?_
  apply Run.ok
  have u42 : ∀ c : UInt8, (((c.toNat : Nat) : Int) == 42) = decide (c = 42) := fun c => u8_beq c 42 42 rfl
  by_cases c0 : 60 < p.length ∨ 60 < q.length ∨ 200 < s.length
  · by_cases c1 : (60 : Int) < p.length
    · simp [c1]
      refine after_call (awake_ev _) ?_
      rintro r h' ⟨rfl, rfl⟩
      simp
    · by_cases c2 : (60 : Int) < q.length
      · simp [c1, c2]
        refine after_call (awake_ev _) ?_
        rintro r h' ⟨rfl, rfl⟩
        simp
      · have c3 : (200 : Int) < s.length := by omega
        simp [c1, c2, c3]
        refine after_call (awake_ev _) ?_
        rintro r h' ⟨rfl, rfl⟩
        simp
  · have c1 : ¬ (60 : Int) < p.length := by omega
    have c2 : ¬ (60 : Int) < q.length := by omega
    have c3 : ¬ (200 : Int) < s.length := by omega
    have hadd : ∀ l m : List UInt8, bs l ++ bs m = bs (l ++ m) := by
      intro l m
      apply ByteArray.ext
      apply Array.toList_inj.1
      simp [bs]
    have hsz : p.length + q.length ≤ 9223372036854775807 := by omega
    simp [c1, c2, c3]
    refine after_call (awake_ev _) ?_
    rintro r h' ⟨rfl, rfl⟩
    simp
    refine after_call (check_ev p _) ?_
    rintro r h' ⟨rfl, rfl⟩
    by_cases d1 : chk p = 0
    · simp [d1]
      refine after_call (check_ev q _) ?_
      rintro r h' ⟨rfl, rfl⟩
      by_cases d2 : chk q = 0
      · simp [d2, hsz, hadd]
        refine after_call (check_ev (p ++ q) _) ?_
        rintro r h' ⟨rfl, rfl⟩
        by_cases d3 : chk (p ++ q) = 0
        · have hp0 : p ≠ [] := by rintro rfl; simp [chk] at d1
          have hq0 : q ≠ [] := by rintro rfl; simp [chk] at d2
          have hpl : 0 < p.length := List.length_pos_iff.2 hp0
          obtain ⟨pl, hpl1⟩ : ∃ pl, p[p.length - 1]? = some pl := ⟨p[p.length - 1], List.getElem?_eq_getElem (by omega)⟩
          have hpl2 : p.getLast? = some pl := by rw [← last_get p hp0]; exact hpl1
          obtain ⟨q0, q1, rfl⟩ := List.exists_cons_of_ne_nil hq0
          have wl : IntKind.i64.wrap ((p.length : Int) - 1) = (p.length : Int) - 1 := wrap_i64 (by omega) (by omega)
          have tn : ((p.length : Int) - 1).toNat = p.length - 1 := by omega
          have gl : (1 : Int) ≤ p.length := by omega
          by_cases e : pl = 42 ∧ q0 = 42
          · obtain ⟨rfl, rfl⟩ := e
            simp [d3, wl, tn, gl, hpl1, u42]
          · have hM := fun s => M_append p (q0 :: q1) s (by rw [hpl2]; simpa using fun h1 h2 => e ⟨h1, h2⟩) d1 d2 d3
            have hlast : (if pl = 42 then decide (q0 = 42) else false) = false := by
              by_cases h1 : pl = 42
              · rw [if_pos h1]; simpa using fun h2 => e ⟨h1, h2⟩
              · rw [if_neg h1]
            have e2 : pl = 42 → q0 ≠ 42 := fun h1 h2 => e ⟨h1, h2⟩
            by_cases e1 : pl = 42
            all_goals
              try have e3 := e2 e1
              simp [d3, wl, tn, gl, hpl1, u42, *]
              refine WpA.loop (fun k fr h' => ∃ i, k = s.length + 1 - i ∧ i ≤ s.length + 1 ∧ fr 0 = .string (bs p) ∧ fr 1 = .string (bs (q0 :: q1)) ∧ fr 2 = .string (bs s) ∧ fr 7 = .bool ((List.range i).any fun n => M p (s.take n) && M (q0 :: q1) (s.drop n)) ∧ fr 8 = .int .i64 (i : Nat) ∧ h' = [])
                (k := s.length + 1) ⟨0, by simp, by omega, by simp, by simp, by simp, by simp, by simp, rfl⟩ ?_
              rintro k fr h' ⟨i, rfl, hi, f0, f1, f2, f7, f8, rfl⟩
              apply Run.ok
              by_cases c : i ≤ s.length
              · have c' : (i : Int) ≤ s.length := by omega
                have w1 : IntKind.i64.wrap ((i : Int) + 1) = (i : Int) + 1 := wrap_i64 (by omega) (by omega)
                have hr : ((List.range (i + 1)).any fun n => M p (s.take n) && M (q0 :: q1) (s.drop n)) = (((List.range i).any fun n => M p (s.take n) && M (q0 :: q1) (s.drop n)) || (M p (s.take i) && M (q0 :: q1) (s.drop i))) := by
                  simp [List.range_succ]
                cases hb : (List.range i).any fun n => M p (s.take n) && M (q0 :: q1) (s.drop n) with
                | true =>
                  rw [hb] at f7 hr
                  simp [f2, f7, f8, c', w1]
                  exact ⟨s.length + 1 - (i + 1), by omega, i + 1, rfl, by omega, f0, f1, by simpa using hr, by simp⟩
                | false =>
                  rw [hb] at f7 hr
                  simp [f0, f2, f7, f8, c', bs_extract]
                  refine after_call (match_ev p (s.take i) _ (by simp; omega)) ?_
                  rintro r h' ⟨rfl, rfl⟩
                  cases hm : M p (s.take i) with
                  | false =>
                    rw [hm] at hr
                    simp [f0, f1, f2, f8, c', w1]
                    exact ⟨s.length + 1 - (i + 1), by omega, i + 1, rfl, by omega, by simpa using hr, by simp⟩
                  | true =>
                    rw [hm] at hr
                    simp [f0, f1, f2, f8, c', bs_extract]
                    refine after_call (match_ev (q0 :: q1) ((s.drop i).take (s.length - i)) _ (by simp; omega)) ?_
                    rintro r h' ⟨rfl, rfl⟩
                    have htd : (s.drop i).take (s.length - i) = s.drop i := List.take_of_length_le (by simp)
                    simp [f0, f1, f2, f8, w1, htd]
                    exact ⟨s.length + 1 - (i + 1), by omega, i + 1, rfl, by omega, by simpa using hr.symm, by simp⟩
              · have c' : ¬ (i : Int) ≤ s.length := by omega
                have hie : i = s.length + 1 := by omega
                subst hie
                have hsz2 : p.length + (q1.length + 1) ≤ 9223372036854775807 := by simpa using hsz
                have c2' : ¬ ((s.length : Int) + 1 ≤ s.length) := by omega
                simp [f0, f1, f2, f8, c2', hsz2, hadd]
                refine after_call (match_ev (p ++ q0 :: q1) s _ (by omega)) ?_
                rintro r h' ⟨rfl, rfl⟩
                simp [f7]
                rw [Bool.eq_iff_iff, hM]
                simp only [List.any_eq_true, List.mem_range, Bool.and_eq_true]
                exact ⟨fun ⟨n, h1, h2⟩ => ⟨n, by omega, h2⟩, fun ⟨n, h1, h2⟩ => ⟨n, by omega, h2⟩⟩
        · have d3' : (chk (p ++ q) != 0) = true := by simpa using d3
          simp [d3']
      · have d2' : (chk q != 0) = true := by simpa using d2
        simp [d2']
    · have d1' : (chk p != 0) = true := by simpa using d1
      simp [d1']
end Go.Proofs.Ytlailailmhdgnaa
