/- The law FreemapNames, run by the kernel: it comes to true; no condition. -/
import Derived.Test.YtncnakjbpaemlaaProg
import Derived.Test.YtncnakjbpaemlaaAb20
import Derived.KernelRfl
namespace Go.Proofs.Ytncnakjbpaemlaa
open Go.Ab
set_option maxRecDepth 100000 in
theorem freemapNames_tells : Tells Try.prog 5 [] (.bool true) := EvA.run (by kernel_rfl) (fun f => false) 60 rfl rfl (by kernel_rfl)
theorem freemapNames_ev : EvA Try.prog 5 [] (fun r _ => r = .bool true) [] := (freemapNames_tells []).mono fun _ _ h => h.1
end Go.Proofs.Ytncnakjbpaemlaa
