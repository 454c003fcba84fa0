/- The law TriggerNames, run by the kernel: it comes to true; no condition. -/
import Derived.Test.YtlailailmhdgnaaProg
import Derived.Test.YtlailailmhdgnaaAb20
import Derived.KernelRfl
namespace Go.Proofs.Ytlailailmhdgnaa
open Go.Ab
set_option maxRecDepth 100000 in
theorem triggerNames_ev : EvA Try.prog 8 [] (fun r _ => r = .bool true) [] :=
  (EvA.run (by kernel_rfl) (fun f => f == 32 || f == 33 || f == 35 || f == 18) 40 (r := .bool true) [] rfl rfl (by kernel_rfl)).mono fun _ _ h => h.1
end Go.Proofs.Ytlailailmhdgnaa
