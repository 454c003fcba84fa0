/- bastionlaw29.works: run by the kernel, it comes to true; no condition. -/
import Derived.Test.YtojdhmkjegkfkaaProg
import Derived.Test.YtojdhmkjegkfkaaAb29
import Derived.KernelRfl
namespace Go.Proofs.Ytojdhmkjegkfkaa
open Go.Ab
set_option maxRecDepth 100000 in
theorem works29_tells : Tells Try.prog 29 [] (.bool true) := EvA.tree (by kernel_rfl) [] (fun _ h => by cases h) (fun f => f == 21 || f == 19) 60 rfl rfl (by kernel_rfl)
theorem works29_ev (h : Hp) : EvA Try.prog 29 [] (fun r h' => h' = h ∧ r = .bool true) h := (works29_tells h).mono fun _ _ q => ⟨q.2, q.1⟩
end Go.Proofs.Ytojdhmkjegkfkaa
