/- The law JobsNames, run by the kernel: it comes to true; no condition. -/
import Derived.Test.YtklhioaokogpdaaProg
import Derived.Test.YtklhioaokogpdaaAb29
import Derived.KernelRfl
namespace Go.Proofs.Ytklhioaokogpdaa
open Go.Ab
set_option maxRecDepth 100000 in
theorem jobsNames_k0 : Tells Try.prog 28 [] (.bool true) := EvA.tree (by kernel_rfl) [] (fun _ h => by cases h) (fun f => f == 28) 60 rfl rfl (by kernel_rfl)
def jobsNames_t : Known := [(28, [], .bool true)]
theorem jobsNames_tok : ∀ e ∈ jobsNames_t, Tells Try.prog e.1 e.2.1 e.2.2 := by
  intro e he
  simp only [jobsNames_t, List.mem_cons, List.not_mem_nil, or_false] at he
  rcases he with rfl
  · exact jobsNames_k0
set_option maxRecDepth 100000 in
theorem jobsNames_tells : Tells Try.prog 11 [] (.bool true) := EvA.tree (by kernel_rfl) jobsNames_t jobsNames_tok (fun f => f == 28) 60 rfl rfl (by kernel_rfl)
theorem jobsNames_ev : EvA Try.prog 11 [] (fun r _ => r = .bool true) [] := (jobsNames_tells []).mono fun _ _ h => h.1
end Go.Proofs.Ytklhioaokogpdaa
