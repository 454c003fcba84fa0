/- The law GlobNames, run by the kernel: it comes to true; no condition. -/
import Derived.Test.YtlailailmhdgnaaProg
import Derived.Test.YtlailailmhdgnaaAb20
import Derived.KernelRfl
namespace Go.Proofs.Ytlailailmhdgnaa
open Go.Ab
set_option maxRecDepth 100000 in
theorem globNames_k0 : Tells Try.prog 32 [] (.bool true) := EvA.run (by kernel_rfl) (fun f => f == 32 || f == 33 || f == 35) 60 rfl rfl (by kernel_rfl)
set_option maxRecDepth 100000 in
theorem globNames_k1 : Tells Try.prog 35 [.string ⟨#[115, 114, 99, 47, 42, 46, 103, 111]⟩, .string ⟨#[115, 114, 99, 47, 97, 46, 103, 111]⟩] (.bool true) := EvA.run (by kernel_rfl) (fun f => f == 32 || f == 33 || f == 35) 60 rfl rfl (by kernel_rfl)
set_option maxRecDepth 100000 in
theorem globNames_k2 : Tells Try.prog 35 [.string ⟨#[115, 114, 99, 47, 42, 46, 103, 111]⟩, .string ⟨#[115, 114, 99, 47, 46, 103, 111]⟩] (.bool true) := EvA.run (by kernel_rfl) (fun f => f == 32 || f == 33 || f == 35) 60 rfl rfl (by kernel_rfl)
set_option maxRecDepth 100000 in
theorem globNames_k3 : Tells Try.prog 35 [.string ⟨#[115, 114, 99, 47, 42, 46, 103, 111]⟩, .string ⟨#[115, 114, 99, 47, 97, 47, 98, 46, 103, 111]⟩] (.bool false) := EvA.run (by kernel_rfl) (fun f => f == 32 || f == 33 || f == 35) 60 rfl rfl (by kernel_rfl)
set_option maxRecDepth 100000 in
theorem globNames_k4 : Tells Try.prog 35 [.string ⟨#[115, 114, 99, 47, 42, 42, 46, 103, 111]⟩, .string ⟨#[115, 114, 99, 47, 97, 46, 103, 111]⟩] (.bool true) := EvA.run (by kernel_rfl) (fun f => f == 32 || f == 33 || f == 35) 60 rfl rfl (by kernel_rfl)
set_option maxRecDepth 100000 in
theorem globNames_k5 : Tells Try.prog 35 [.string ⟨#[115, 114, 99, 47, 42, 42, 46, 103, 111]⟩, .string ⟨#[115, 114, 99, 47, 46, 103, 111]⟩] (.bool true) := EvA.run (by kernel_rfl) (fun f => f == 32 || f == 33 || f == 35) 60 rfl rfl (by kernel_rfl)
set_option maxRecDepth 100000 in
theorem globNames_k6 : Tells Try.prog 35 [.string ⟨#[115, 114, 99, 47, 42, 42, 46, 103, 111]⟩, .string ⟨#[115, 114, 99, 47, 97, 47, 98, 46, 103, 111]⟩] (.bool true) := EvA.run (by kernel_rfl) (fun f => f == 32 || f == 33 || f == 35) 60 rfl rfl (by kernel_rfl)
set_option maxRecDepth 100000 in
theorem globNames_k7 : Tells Try.prog 35 [.string ⟨#[97, 63, 99]⟩, .string ⟨#[97, 98, 99]⟩] (.bool true) := EvA.run (by kernel_rfl) (fun f => f == 32 || f == 33 || f == 35) 60 rfl rfl (by kernel_rfl)
set_option maxRecDepth 100000 in
theorem globNames_k8 : Tells Try.prog 35 [.string ⟨#[97, 63, 99]⟩, .string ⟨#[97, 47, 99]⟩] (.bool false) := EvA.run (by kernel_rfl) (fun f => f == 32 || f == 33 || f == 35) 60 rfl rfl (by kernel_rfl)
set_option maxRecDepth 100000 in
theorem globNames_k9 : Tells Try.prog 35 [.string ⟨#[97, 63, 99]⟩, .string ⟨#[97, 99]⟩] (.bool false) := EvA.run (by kernel_rfl) (fun f => f == 32 || f == 33 || f == 35) 60 rfl rfl (by kernel_rfl)
set_option maxRecDepth 100000 in
theorem globNames_k10 : Tells Try.prog 35 [.string ⟨#[42, 42, 42]⟩, .string ⟨#[]⟩] (.bool true) := EvA.run (by kernel_rfl) (fun f => f == 32 || f == 33 || f == 35) 60 rfl rfl (by kernel_rfl)
set_option maxRecDepth 100000 in
theorem globNames_k11 : Tells Try.prog 35 [.string ⟨#[42, 42, 42]⟩, .string ⟨#[97, 47, 98]⟩] (.bool true) := EvA.run (by kernel_rfl) (fun f => f == 32 || f == 33 || f == 35) 60 rfl rfl (by kernel_rfl)
set_option maxRecDepth 100000 in
theorem globNames_k12 : Tells Try.prog 35 [.string ⟨#[42]⟩, .string ⟨#[97, 47, 98]⟩] (.bool false) := EvA.run (by kernel_rfl) (fun f => f == 32 || f == 33 || f == 35) 60 rfl rfl (by kernel_rfl)
set_option maxRecDepth 100000 in
theorem globNames_k13 : Tells Try.prog 35 [.string ⟨#[42]⟩, .string ⟨#[]⟩] (.bool true) := EvA.run (by kernel_rfl) (fun f => f == 32 || f == 33 || f == 35) 60 rfl rfl (by kernel_rfl)
set_option maxRecDepth 100000 in
theorem globNames_k14 : Tells Try.prog 35 [.string ⟨#[]⟩, .string ⟨#[]⟩] (.bool false) := EvA.run (by kernel_rfl) (fun f => f == 32 || f == 33 || f == 35) 60 rfl rfl (by kernel_rfl)
set_option maxRecDepth 100000 in
theorem globNames_k15 : Tells Try.prog 35 [.string ⟨#[42, 42, 42, 42, 42, 42, 42, 42, 42, 42, 42, 42, 42, 42, 42, 42, 42, 42, 42, 42, 42, 42, 42, 42, 42, 42, 42, 42, 42, 42, 42, 42, 42, 42, 42, 42, 42, 42, 42, 42, 42, 42, 42, 42, 42, 42, 42, 42, 42, 42, 42, 42, 42, 42, 42, 42, 42, 42, 42, 42, 42, 42, 42, 42]⟩, .string ⟨#[97, 47, 98, 47, 99]⟩] (.bool true) := EvA.run (by kernel_rfl) (fun f => f == 32 || f == 33 || f == 35) 60 rfl rfl (by kernel_rfl)
set_option maxRecDepth 100000 in
theorem globNames_k16 : Tells Try.prog 35 [.string ⟨#[42, 42, 42, 42, 42, 42, 42, 42, 42, 42, 42, 42, 42, 42, 42, 42, 42, 42, 42, 42, 42, 42, 42, 42, 42, 42, 42, 42, 42, 42, 42, 42, 42, 42, 42, 42, 42, 42, 42, 42, 42, 42, 42, 42, 42, 42, 42, 42, 42, 42, 42, 42, 42, 42, 42, 42, 42, 42, 42, 42, 42, 42, 42, 42, 42]⟩, .string ⟨#[97]⟩] (.bool false) := EvA.run (by kernel_rfl) (fun f => f == 32 || f == 33 || f == 35) 60 rfl rfl (by kernel_rfl)
set_option maxRecDepth 100000 in
theorem globNames_k17 : Tells Try.prog 35 [.string ⟨#[42, 42, 97]⟩, .string ⟨#[98, 47, 97, 0]⟩] (.bool false) := EvA.run (by kernel_rfl) (fun f => f == 32 || f == 33 || f == 35) 60 rfl rfl (by kernel_rfl)
set_option maxRecDepth 100000 in
theorem globNames_k18 : Tells Try.prog 35 [.string ⟨#[97]⟩, .string ⟨#[97]⟩] (.bool true) := EvA.run (by kernel_rfl) (fun f => f == 32 || f == 33 || f == 35) 60 rfl rfl (by kernel_rfl)
def globNames_t : Known := [(32, [], .bool true), (35, [.string ⟨#[115, 114, 99, 47, 42, 46, 103, 111]⟩, .string ⟨#[115, 114, 99, 47, 97, 46, 103, 111]⟩], .bool true), (35, [.string ⟨#[115, 114, 99, 47, 42, 46, 103, 111]⟩, .string ⟨#[115, 114, 99, 47, 46, 103, 111]⟩], .bool true), (35, [.string ⟨#[115, 114, 99, 47, 42, 46, 103, 111]⟩, .string ⟨#[115, 114, 99, 47, 97, 47, 98, 46, 103, 111]⟩], .bool false), (35, [.string ⟨#[115, 114, 99, 47, 42, 42, 46, 103, 111]⟩, .string ⟨#[115, 114, 99, 47, 97, 46, 103, 111]⟩], .bool true), (35, [.string ⟨#[115, 114, 99, 47, 42, 42, 46, 103, 111]⟩, .string ⟨#[115, 114, 99, 47, 46, 103, 111]⟩], .bool true), (35, [.string ⟨#[115, 114, 99, 47, 42, 42, 46, 103, 111]⟩, .string ⟨#[115, 114, 99, 47, 97, 47, 98, 46, 103, 111]⟩], .bool true), (35, [.string ⟨#[97, 63, 99]⟩, .string ⟨#[97, 98, 99]⟩], .bool true), (35, [.string ⟨#[97, 63, 99]⟩, .string ⟨#[97, 47, 99]⟩], .bool false), (35, [.string ⟨#[97, 63, 99]⟩, .string ⟨#[97, 99]⟩], .bool false), (35, [.string ⟨#[42, 42, 42]⟩, .string ⟨#[]⟩], .bool true), (35, [.string ⟨#[42, 42, 42]⟩, .string ⟨#[97, 47, 98]⟩], .bool true), (35, [.string ⟨#[42]⟩, .string ⟨#[97, 47, 98]⟩], .bool false), (35, [.string ⟨#[42]⟩, .string ⟨#[]⟩], .bool true), (35, [.string ⟨#[]⟩, .string ⟨#[]⟩], .bool false), (35, [.string ⟨#[42, 42, 42, 42, 42, 42, 42, 42, 42, 42, 42, 42, 42, 42, 42, 42, 42, 42, 42, 42, 42, 42, 42, 42, 42, 42, 42, 42, 42, 42, 42, 42, 42, 42, 42, 42, 42, 42, 42, 42, 42, 42, 42, 42, 42, 42, 42, 42, 42, 42, 42, 42, 42, 42, 42, 42, 42, 42, 42, 42, 42, 42, 42, 42]⟩, .string ⟨#[97, 47, 98, 47, 99]⟩], .bool true), (35, [.string ⟨#[42, 42, 42, 42, 42, 42, 42, 42, 42, 42, 42, 42, 42, 42, 42, 42, 42, 42, 42, 42, 42, 42, 42, 42, 42, 42, 42, 42, 42, 42, 42, 42, 42, 42, 42, 42, 42, 42, 42, 42, 42, 42, 42, 42, 42, 42, 42, 42, 42, 42, 42, 42, 42, 42, 42, 42, 42, 42, 42, 42, 42, 42, 42, 42, 42]⟩, .string ⟨#[97]⟩], .bool false), (35, [.string ⟨#[42, 42, 97]⟩, .string ⟨#[98, 47, 97, 0]⟩], .bool false), (35, [.string ⟨#[97]⟩, .string ⟨#[97]⟩], .bool true)]
theorem globNames_tok : ∀ e ∈ globNames_t, Tells Try.prog e.1 e.2.1 e.2.2 := by
  intro e he
  simp only [globNames_t, List.mem_cons, List.not_mem_nil, or_false] at he
  rcases he with rfl | rfl | rfl | rfl | rfl | rfl | rfl | rfl | rfl | rfl | rfl | rfl | rfl | rfl | rfl | rfl | rfl | rfl | rfl
  · exact globNames_k0
  · exact globNames_k1
  · exact globNames_k2
  · exact globNames_k3
  · exact globNames_k4
  · exact globNames_k5
  · exact globNames_k6
  · exact globNames_k7
  · exact globNames_k8
  · exact globNames_k9
  · exact globNames_k10
  · exact globNames_k11
  · exact globNames_k12
  · exact globNames_k13
  · exact globNames_k14
  · exact globNames_k15
  · exact globNames_k16
  · exact globNames_k17
  · exact globNames_k18
set_option maxRecDepth 100000 in
theorem globNames_tells : Tells Try.prog 11 [] (.bool true) := EvA.runT (by kernel_rfl) globNames_t globNames_tok (fun f => f == 32 || f == 33 || f == 35) 60 rfl rfl (by kernel_rfl)
theorem globNames_ev : EvA Try.prog 11 [] (fun r _ => r = .bool true) [] := (globNames_tells []).mono fun _ _ h => h.1
end Go.Proofs.Ytlailailmhdgnaa
