/- Numbers modulo: as the program reckons them; no condition. -/
import Derived.Test.YtaahkamnpobofaaWorks26
namespace Go.Proofs.Ytaahkamnpobofaa
open Go.Ab
theorem u64nat (n : Int) : ∃ q : Nat, IntKind.u64.wrap n = (q : Int) ∧ q < 18446744073709551616 := by
  have h0 : IntKind.u64.wrap n = n % 18446744073709551616 := by
    simp [IntKind.wrap, IntKind.bits, IntKind.signed]
  rw [h0]
  exact ⟨(n % 18446744073709551616).toNat, by omega, by omega⟩
theorem tmod_nat (q m : Nat) : ((q : Nat) : Int).tmod (m : Nat) = ((q % m : Nat) : Int) := by
  rw [Int.tmod_eq_emod_of_nonneg (by omega)]; simp
end Go.Proofs.Ytaahkamnpobofaa
