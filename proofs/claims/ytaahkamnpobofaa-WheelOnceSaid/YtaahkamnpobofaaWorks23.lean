/- bastionlaw23.works: run by the kernel, it comes to true; no condition. -/
import Derived.Test.YtaahkamnpobofaaProg
import Derived.Test.YtaahkamnpobofaaAb29
import Derived.KernelRfl
namespace Go.Proofs.Ytaahkamnpobofaa
open Go.Ab
set_option maxRecDepth 100000 in
theorem works23_tells : Tells Try.prog 19 [] (.bool true) := EvA.tree (by kernel_rfl) [] (fun _ h => by cases h) (fun f => false) 60 rfl rfl (by kernel_rfl)
theorem works23_ev (h : Hp) : EvA Try.prog 19 [] (fun r h' => h' = h ∧ r = .bool true) h := (works23_tells h).mono fun _ _ q => ⟨q.2, q.1⟩
end Go.Proofs.Ytaahkamnpobofaa
