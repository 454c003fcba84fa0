/- The law ExprNames, run by the kernel: it comes to true; no condition. -/
import Derived.Test.YtbamofeocfbjbaaProg
import Derived.Test.YtbamofeocfbjbaaAb29
import Derived.KernelRfl
namespace Go.Proofs.Ytbamofeocfbjbaa
open Go.Ab
set_option maxRecDepth 100000 in
theorem exprNames_k0 : Tells Try.prog 12 [] (.bool true) := EvA.tree (by kernel_rfl) [] (fun _ h => by cases h) (fun f => f == 12) 3000 rfl rfl (by kernel_rfl)
def exprNames_t : Known := [(12, [], .bool true)]
theorem exprNames_tok : ∀ e ∈ exprNames_t, Tells Try.prog e.1 e.2.1 e.2.2 := by
  intro e he
  simp only [exprNames_t, List.mem_cons, List.not_mem_nil, or_false] at he
  rcases he with rfl
  · exact exprNames_k0
set_option maxRecDepth 100000 in
theorem exprNames_tells : Tells Try.prog 4 [] (.bool true) := EvA.tree (by kernel_rfl) exprNames_t exprNames_tok (fun f => f == 12) 3000 rfl rfl (by kernel_rfl)
theorem exprNames_ev : EvA Try.prog 4 [] (fun r _ => r = .bool true) [] := (exprNames_tells []).mono fun _ _ h => h.1
end Go.Proofs.Ytbamofeocfbjbaa
