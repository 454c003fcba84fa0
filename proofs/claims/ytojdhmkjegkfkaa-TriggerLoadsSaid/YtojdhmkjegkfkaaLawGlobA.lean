/- The laws GlobMatches, GlobSelf and GlobTogether: they come to true; no condition. -/
import Derived.Test.YtojdhmkjegkfkaaRMatch
import Derived.KernelRfl
namespace Go.Proofs.Ytojdhmkjegkfkaa
open Go.Ab Go.Glob
set_option maxRecDepth 100000 in
theorem awake_tells : Tells Try.prog 18 [] (.bool true) := EvA.run (by kernel_rfl) (fun f => f == 21 || f == 19) 60 rfl rfl (by kernel_rfl)
theorem awake_ev (h : Hp) : EvA Try.prog 18 [] (fun r h' => h' = h ∧ r = .bool true) h := (awake_tells h).mono fun _ _ q => ⟨q.2, q.1⟩
theorem globMatches_ev (a b : ByteArray) : EvA Try.prog 4 [.string a, .string b] (fun r _ => r = .bool true) [] := by
  rw [← bs_self a, ← bs_self b]
  generalize a.data.toList = p
  generalize b.data.toList = s
  refine EvA.body Try.func4 rfl (by kernel_rfl) (by simp) ?_
  apply Run.ok
  by_cases c1 : 2000 < p.length
  · have c1' : (2000 : Int) < p.length := by omega
    simp [c1']
    refine after_call (awake_ev _) ?_
    rintro r h' ⟨rfl, rfl⟩
    simp
  · have c1' : ¬ (2000 : Int) < p.length := by omega
    by_cases c2 : 2000 < s.length
    · have c2' : (2000 : Int) < s.length := by omega
      simp [c1', c2']
      refine after_call (awake_ev _) ?_
      rintro r h' ⟨rfl, rfl⟩
      simp
    · have c2' : ¬ (2000 : Int) < s.length := by omega
      simp [c1', c2']
      refine after_call (check_ev p _) ?_
      rintro r h' ⟨rfl, rfl⟩
      simp
      refine after_call (rcheck_ev p _) ?_
      rintro r h' ⟨rfl, rfl⟩
      simp
      refine after_call (match_ev p s _ (by omega)) ?_
      rintro r h' ⟨rfl, rfl⟩
      simp
      refine after_call (rmatch_ev p s _ (by omega)) ?_
      rintro r h' ⟨rfl, rfl⟩
      simp
      refine after_call (awake_ev _) ?_
      rintro r h' ⟨rfl, rfl⟩
      simp
end Go.Proofs.Ytojdhmkjegkfkaa
