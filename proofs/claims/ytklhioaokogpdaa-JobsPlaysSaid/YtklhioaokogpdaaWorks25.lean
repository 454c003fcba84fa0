/- bastionlaw25.works: run by the kernel, it comes to true; no condition. -/
import Derived.Test.YtklhioaokogpdaaProg
import Derived.Test.YtklhioaokogpdaaAb29
import Derived.KernelRfl
namespace Go.Proofs.Ytklhioaokogpdaa
open Go.Ab
set_option maxRecDepth 100000 in
theorem works25_tells : Tells Try.prog 28 [] (.bool true) := EvA.tree (by kernel_rfl) [] (fun _ h => by cases h) (fun f => false) 60 rfl rfl (by kernel_rfl)
theorem works25_ev (h : Hp) : EvA Try.prog 28 [] (fun r h' => h' = h ∧ r = .bool true) h := (works25_tells h).mono fun _ _ q => ⟨q.2, q.1⟩
end Go.Proofs.Ytklhioaokogpdaa
