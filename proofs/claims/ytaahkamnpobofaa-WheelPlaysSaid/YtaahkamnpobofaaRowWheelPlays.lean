/- The law WheelPlays holds: called, it answers true, and memory is as it was; no condition. -/
import Derived.Test.YtaahkamnpobofaaRows
import Derived.Test.YtaahkamnpobofaaLawPlays23
import Derived.WalkKit
import Derived.ProofKit
import Derived.OpenShut
import Derived.ShutString
import Derived.ChangeOld
import Derived.Below
import Derived.SizedLaws
namespace Go.Proofs.Ytaahkamnpobofaa.wheelPlays
open Go.ChangeShapes Go.WideShapes Go.ChangeAt Go.RowKit Go.Ab
theorem own : ownKnob Try.prog.godebug = none := by kernel_rfl
theorem laid : laidOutB Try.prog = true := by kernel_rfl
set_option maxRecDepth 100000 in
theorem lifted (os : Os) (started : os.Started) (H : Type) (enc : TypeId × Value → H) :
    ReturnsInHanded {} Try.checked os 7 .any (Rows.wheelPlaysSpec.pre6 enc Try.prog Try.f7 Rows.wheelPlaysRow.domain false) (Rows.wheelPlaysSpec.post enc Try.prog Try.f7 false true false false) := by
  refine returnsInHanded_of_change_sized (C := Try.checked) own started (by kernel_rfl) Try.func7
    (ChangeSpec.witness6 (enc := enc) (C := Try.checked) false ⟨#[], #[.slice none 0 0], []⟩ 8 (by kernel_rfl) (by kernel_rfl) (by kernel_rfl) (by kernel_rfl)) ?_
  intro W base args ds gs before hval0 hW hcnd hsz0 _
  have hsz : (DataW.weightsEach Try.prog (Try.f7.params.toList ++ Rows.wheelPlaysSpec.plain.varTypes Try.prog) (ds ++ gs)).all (· ≤ reachBytes) = true := hsz0
  have hval : ∀ (j : Nat) t v, Try.f7.params[j]? = some t → args[j]? = some v → Value.okWide Try.prog W .any base t v := hval0
  have hW' := hW
  obtain ⟨p, q, hA0, hV, rfl, hfz, hnd⟩ := hW
  have hA : DataW.TrodAll enc Try.prog W 0 (fun _ => true) true Try.f7.params.toList args.toList ds p := hA0
  rw [Try.params7] at hA hval hsz
  obtain ⟨rfl, rfl⟩ := trodVars_none hV
  rw [List.append_nil] at hsz
  have hsz2 : (DataW.weightsEach Try.prog [58] ds).all (· ≤ reachBytes) = true := hsz
  refine (EvA.law (P := Try.prog) (k := 6) (base := base) (ts := [58]) wheelPlays_ev hA (by kernel_rfl) hsz2 (fun j t v ht hv => hval j t v (by rw [← Array.getElem?_toList]; exact ht) hv)).mono fun e W' ⟨he, bel⟩ => ?_
  subst he
  have hcar := carry_all (enc := enc) laid bel [58] args.toList ds p (by kernel_rfl) hA (fun x hx => hW'.lt x (by simp [hx]))
  obtain ⟨dsl, hdsl⟩ : ∃ l : List (DataW H), l = ds := ⟨_, rfl⟩
  have hlen : ds.length = 1 := by
    revert hA; clear hcar hsz hsz2 hval hA0 hval0 hsz0 hW' hcnd hdsl hV
    intro hA
    have key : ∀ (ts : List TypeId) (vs : List Value) (ds : List (DataW H)) (p : List MemPlace), DataW.TrodAll enc Try.prog W 0 (fun _ => true) true ts vs ds p → ds.length = ts.length := by
      intro ts; induction ts with
      | nil => intro vs ds p h; cases vs <;> cases ds <;> first | rfl | exact h.elim
      | cons t ts ih => intro vs ds p h; cases vs with | nil => cases ds <;> exact h.elim | cons v vs => cases ds with | nil => exact h.elim | cons d ds => obtain ⟨_, _, _, h2, _⟩ := h; simp [ih _ _ _ h2]
    exact key _ _ _ _ hA
  match ds, hlen with
  | [d0], _ =>
    exact ⟨_, rfl, _, _, _, [], _, [], hW', trodAll_mk1 (shut_bool Try.underlying4 _), hcar, rfl, bel.frame _, fun h => by cases h⟩
theorem over : Rows.wheelPlaysRow.holds Try.pinned (OpenSpec.ofChange Rows.wheelPlaysSpec) :=
  OpenClaim.holds_of_wide 7 Try.f7 rfl rfl rfl rfl rfl rfl rfl ⟨rfl, rfl, rfl, rfl, rfl⟩ rfl rfl rfl rfl rfl (by kernel_rfl) Try.func7 (by kernel_rfl)
    (of_decide_eq_true (by kernel_rfl)) (by unfold Func.isWrapper; first | (rw [if_pos (by decide +kernel)]; kernel_rfl) | (rw [if_neg (by decide +kernel)]; exact ⟨rfl, rfl⟩))
    (fun os started H enc _ => lifted os started H enc)
theorem proved : Rows.WheelPlaysSaid := over
#print axioms proved
end Go.Proofs.Ytaahkamnpobofaa.wheelPlays
namespace Go.Proofs.Ytaahkamnpobofaa
/-- The row, under a short name, for the claim. -/
theorem wheelPlays_holds : Rows.WheelPlaysSaid := wheelPlays.proved
end Go.Proofs.Ytaahkamnpobofaa
