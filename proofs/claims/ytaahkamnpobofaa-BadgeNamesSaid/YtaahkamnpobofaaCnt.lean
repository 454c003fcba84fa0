/- Counts taken off: what was read stood there, and what is laid is read; no condition. -/
import Derived.Test.YtaahkamnpobofaaRdrO
namespace Go.Proofs.Ytaahkamnpobofaa
open Go.Ab
theorem num_pre {l : List UInt8} (h : (num l).2 ≠ 0) : ∃ r, l = enc (num l).1 ++ r ∧ (num l).2 = (enc (num l).1).length := by
  rcases num_cases l with ⟨u, hu, he⟩ | ⟨_, he⟩
  · obtain ⟨r, hr⟩ := hu.2
    rw [he]
    exact ⟨r, hr.symm, (enc_length u).symm⟩
  · rw [he] at h; exact absurd rfl h
theorem wth_num {l : List UInt8} {most : Int} (h : (wth l most).2 ≠ 0) : wth l most = num l ∧ (num l).1 ≤ 2147483647 ∧ ((num l).1 : Int) ≤ most := by
  unfold wth at h ⊢
  split
  · rename_i c; rw [if_pos c] at h; exact absurd rfl h
  · rename_i c; simp only [not_or] at c; exact ⟨rfl, by omega, by omega⟩
theorem cntO_some {most : Int} {o : Option (List UInt8)} {r : List UInt8} (h : (cntO most o).2 = some r) : o = some (enc (cntO most o).1 ++ r) := by
  cases o with
  | none => simp [cntO] at h
  | some l =>
    simp only [cntO] at h ⊢
    by_cases c : (wth l most).2 = 0
    · rw [if_pos c] at h; cases h
    · rw [if_neg c] at h ⊢
      simp only [Option.some.injEq] at h
      have hw := (wth_num c).1
      rw [hw] at h c ⊢
      obtain ⟨q, h1, h2⟩ := num_pre c
      simp only
      rw [← h, h2]
      rw [Option.some.injEq]
      conv => lhs; rw [h1]
      congr 1
      conv => rhs; rw [h1]
      rw [List.drop_left' (by rw [← h1])]
theorem cntO_enc {most : Int} {u : Nat} (r : List UInt8) (h1 : (u : Int) ≤ most) (h2 : u ≤ 2147483647) : cntO most (some (enc u ++ r)) = (u, some r) := by
  have hn := num_some (s := enc u ++ r) (u := u) ⟨by omega, ⟨r, rfl⟩⟩
  have hg := grps_pos u
  have hw : wth (enc u ++ r) most = (u, grps u) := by unfold wth; rw [hn, if_neg (by omega)]
  simp only [cntO, hw]
  rw [if_neg (by omega), ← enc_length, List.drop_left]
end Go.Proofs.Ytaahkamnpobofaa
