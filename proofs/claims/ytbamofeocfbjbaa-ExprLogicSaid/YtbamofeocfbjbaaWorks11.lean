/- bastionlaw11.works: run by the kernel, it comes to true; no condition. -/
import Derived.Test.YtbamofeocfbjbaaProg
import Derived.Test.YtbamofeocfbjbaaAb29
import Derived.KernelRfl
namespace Go.Proofs.Ytbamofeocfbjbaa
open Go.Ab
set_option maxRecDepth 100000 in
theorem works11_tells : Tells Try.prog 12 [] (.bool true) := EvA.tree (by kernel_rfl) [] (fun _ h => by cases h) (fun f => false) 60 rfl rfl (by kernel_rfl)
theorem works11_ev (h : Hp) : EvA Try.prog 12 [] (fun r h' => h' = h ∧ r = .bool true) h := (works11_tells h).mono fun _ _ q => ⟨q.2, q.1⟩
end Go.Proofs.Ytbamofeocfbjbaa
