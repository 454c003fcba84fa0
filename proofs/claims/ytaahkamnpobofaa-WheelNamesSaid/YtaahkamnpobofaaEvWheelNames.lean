/- The law WheelNames, run by the kernel: it comes to true; no condition. -/
import Derived.Test.YtaahkamnpobofaaProg
import Derived.Test.YtaahkamnpobofaaAb29
import Derived.KernelRfl
namespace Go.Proofs.Ytaahkamnpobofaa
open Go.Ab
set_option maxRecDepth 100000 in
theorem wheelNames_tells : Tells Try.prog 6 [] (.bool true) := EvA.tree (by kernel_rfl) [] (fun _ h => by cases h) (fun f => false) 60 rfl rfl (by kernel_rfl)
theorem wheelNames_ev : EvA Try.prog 6 [] (fun r _ => r = .bool true) [] := (wheelNames_tells []).mono fun _ _ h => h.1
end Go.Proofs.Ytaahkamnpobofaa
