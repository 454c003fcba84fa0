/-
  No cell of these rows narrows 'for every input' (looked for: loops, veiled, ifaces, maps, wideKeys, modest, calm, conditions, laid).
  DERIVED. THE GIVEN ROWS OF THIS SEAT. 9 by the template 'for every input the law returns true; each argument reads behind the call as it read before'; 0 by the template 'total and deterministic' (their statements: YtbamofeocfbjbaaTotals.lean).
  GIVEN WITH THE SEED: the statements are not yours to turn. If you find one false, say at which input.
  Laid BY PROGRAM, IN A SANDBOX (cutbox-rows.mjs): the forced cells as the released guide's own fill.sh prints them over the translation 7f20d574e95964d8… (all of the seat's roots in one cut). By AI agents, Wed Nov 11 2026. No macro, syntax, notation, axiom, sorry.
-/
import Derived.Test.YtbamofeocfbjbaaChecked
import GoSem.Claim
import GoSem.ClaimJoined
import GoSem.ClaimMapViews
import Derived.JoinedTies
import Derived.KernelRfl
namespace Go.Proofs.Ytbamofeocfbjbaa
/- THE CELL 'sum', in the pinned program and in every row, IS THE sha256 OF THE DUMP (.gsa) THAT YtbamofeocfbjbaaProg.lean LOADS. Nothing in Lean hashes anything: it is a label: what it is worth is what the hold of that sum in a sandbox is worth. -/
noncomputable def Try.pinned : Pinned := { name := "ytbamofeocfbjbaa", sum := "7f20d574e95964d8aa1b2c9ff09029f6b6187f157c0b258c8c8babf5f1d75a8c", checked := Try.checked }
namespace Rows
def none {H : Type} : Left H := { results := [], args := [] }

/-- 'bastionlaw11.ExprLogic': WHATEVER THE INPUT: true; the input reads as it did. -/
def exprLogicSpec : ChangeSpec := { name := "exprLogic", fn := fun _ => fun
  | [d1, d2, d3] => { results := [.lit (.bool true)], args := [d1, d2, d3] }
  | _ => none }
def exprLogicRow : OpenClaim := { program := "ytbamofeocfbjbaa", sum := "7f20d574e95964d8aa1b2c9ff09029f6b6187f157c0b258c8c8babf5f1d75a8c", func := "bastion/bastionlaw11.ExprLogic", spec := "exprLogic", unfollowed := true, recurses := true, apart := false }
def ExprLogicSaid : Prop := exprLogicRow.holds Try.pinned (OpenSpec.ofChange exprLogicSpec)

/-- ITS FALSE NEIGHBOUR: 'it returns false'. Refute it at one input. -/
def exprLogicWrong : ChangeSpec := { name := "exprLogic", fn := fun _ => fun
  | [d1, d2, d3] => { results := [.lit (.bool false)], args := [d1, d2, d3] }
  | _ => none }
def ExprLogicWrongFalsely : Prop := exprLogicRow.holds Try.pinned (OpenSpec.ofChange exprLogicWrong)

/-- 'bastionlaw11.ExprNames': WHATEVER THE INPUT: true; the input reads as it did. -/
def exprNamesSpec : ChangeSpec := { name := "exprNames", fn := fun _ => fun
  | [] => { results := [.lit (.bool true)], args := [] }
  | _ => none }
def exprNamesRow : OpenClaim := { program := "ytbamofeocfbjbaa", sum := "7f20d574e95964d8aa1b2c9ff09029f6b6187f157c0b258c8c8babf5f1d75a8c", func := "bastion/bastionlaw11.ExprNames", spec := "exprNames", unfollowed := true, recurses := true, apart := false }
def ExprNamesSaid : Prop := exprNamesRow.holds Try.pinned (OpenSpec.ofChange exprNamesSpec)

/-- ITS FALSE NEIGHBOUR: 'it returns false'. Refute it at one input. -/
def exprNamesWrong : ChangeSpec := { name := "exprNames", fn := fun _ => fun
  | [] => { results := [.lit (.bool false)], args := [] }
  | _ => none }
def ExprNamesWrongFalsely : Prop := exprNamesRow.holds Try.pinned (OpenSpec.ofChange exprNamesWrong)

/-- 'bastionlaw11.ExprValues': WHATEVER THE INPUT: true; the input reads as it did. -/
def exprValuesSpec : ChangeSpec := { name := "exprValues", fn := fun _ => fun
  | [d] => { results := [.lit (.bool true)], args := [d] }
  | _ => none }
def exprValuesRow : OpenClaim := { program := "ytbamofeocfbjbaa", sum := "7f20d574e95964d8aa1b2c9ff09029f6b6187f157c0b258c8c8babf5f1d75a8c", func := "bastion/bastionlaw11.ExprValues", spec := "exprValues", unfollowed := true, recurses := true, apart := false }
def ExprValuesSaid : Prop := exprValuesRow.holds Try.pinned (OpenSpec.ofChange exprValuesSpec)

/-- ITS FALSE NEIGHBOUR: 'it returns false'. Refute it at one input. -/
def exprValuesWrong : ChangeSpec := { name := "exprValues", fn := fun _ => fun
  | [d] => { results := [.lit (.bool false)], args := [d] }
  | _ => none }
def ExprValuesWrongFalsely : Prop := exprValuesRow.holds Try.pinned (OpenSpec.ofChange exprValuesWrong)

/-- 'bastionlaw11.ExprBrackets': WHATEVER THE INPUT: true; the input reads as it did. -/
def exprBracketsSpec : ChangeSpec := { name := "exprBrackets", fn := fun _ => fun
  | [d] => { results := [.lit (.bool true)], args := [d] }
  | _ => none }
def exprBracketsRow : OpenClaim := { program := "ytbamofeocfbjbaa", sum := "7f20d574e95964d8aa1b2c9ff09029f6b6187f157c0b258c8c8babf5f1d75a8c", func := "bastion/bastionlaw11.ExprBrackets", spec := "exprBrackets", unfollowed := true, recurses := true, apart := false }
def ExprBracketsSaid : Prop := exprBracketsRow.holds Try.pinned (OpenSpec.ofChange exprBracketsSpec)

/-- ITS FALSE NEIGHBOUR: 'it returns false'. Refute it at one input. -/
def exprBracketsWrong : ChangeSpec := { name := "exprBrackets", fn := fun _ => fun
  | [d] => { results := [.lit (.bool false)], args := [d] }
  | _ => none }
def ExprBracketsWrongFalsely : Prop := exprBracketsRow.holds Try.pinned (OpenSpec.ofChange exprBracketsWrong)

/-- 'bastionlaw17.FilesAsks': WHATEVER THE INPUT: true; the input reads as it did. -/
def filesAsksSpec : ChangeSpec := { name := "filesAsks", fn := fun _ => fun
  | [d1, d2, d3, d4] => { results := [.lit (.bool true)], args := [d1, d2, d3, d4] }
  | _ => none }
def filesAsksRow : OpenClaim := { program := "ytbamofeocfbjbaa", sum := "7f20d574e95964d8aa1b2c9ff09029f6b6187f157c0b258c8c8babf5f1d75a8c", func := "bastion/bastionlaw17.FilesAsks", spec := "filesAsks", inPlace := ["internal/bytealg.IndexByteString", "internal/bytealg.IndexString"], unfollowed := true, recurses := true, named := ["internal/bytealg.MaxLen"], apart := false }
def FilesAsksSaid : Prop := filesAsksRow.holds Try.pinned (OpenSpec.ofChange filesAsksSpec)

/-- ITS FALSE NEIGHBOUR: 'it returns false'. Refute it at one input. -/
def filesAsksWrong : ChangeSpec := { name := "filesAsks", fn := fun _ => fun
  | [d1, d2, d3, d4] => { results := [.lit (.bool false)], args := [d1, d2, d3, d4] }
  | _ => none }
def FilesAsksWrongFalsely : Prop := filesAsksRow.holds Try.pinned (OpenSpec.ofChange filesAsksWrong)

/-- 'bastionlaw17.FilesLaid': WHATEVER THE INPUT: true; the input reads as it did. -/
def filesLaidSpec : ChangeSpec := { name := "filesLaid", fn := fun _ => fun
  | [d1, d2] => { results := [.lit (.bool true)], args := [d1, d2] }
  | _ => none }
def filesLaidRow : OpenClaim := { program := "ytbamofeocfbjbaa", sum := "7f20d574e95964d8aa1b2c9ff09029f6b6187f157c0b258c8c8babf5f1d75a8c", func := "bastion/bastionlaw17.FilesLaid", spec := "filesLaid", inPlace := ["internal/bytealg.IndexByteString", "internal/bytealg.IndexString", "internal/bytealg.abigen_runtime_cmpstring", "slices.overlaps[bastion/api.File]"], unfollowed := true, recurses := true, named := ["internal/bytealg.MaxLen"], apart := false }
def FilesLaidSaid : Prop := filesLaidRow.holds Try.pinned (OpenSpec.ofChange filesLaidSpec)

/-- ITS FALSE NEIGHBOUR: 'it returns false'. Refute it at one input. -/
def filesLaidWrong : ChangeSpec := { name := "filesLaid", fn := fun _ => fun
  | [d1, d2] => { results := [.lit (.bool false)], args := [d1, d2] }
  | _ => none }
def FilesLaidWrongFalsely : Prop := filesLaidRow.holds Try.pinned (OpenSpec.ofChange filesLaidWrong)

/-- 'bastionlaw17.FilesNames': WHATEVER THE INPUT: true; the input reads as it did. -/
def filesNamesSpec : ChangeSpec := { name := "filesNames", fn := fun _ => fun
  | [] => { results := [.lit (.bool true)], args := [] }
  | _ => none }
def filesNamesRow : OpenClaim := { program := "ytbamofeocfbjbaa", sum := "7f20d574e95964d8aa1b2c9ff09029f6b6187f157c0b258c8c8babf5f1d75a8c", func := "bastion/bastionlaw17.FilesNames", spec := "filesNames", inPlace := ["internal/bytealg.IndexByteString", "internal/bytealg.IndexString", "internal/bytealg.abigen_runtime_cmpstring", "slices.overlaps[bastion/api.File]"], unfollowed := true, recurses := true, named := ["internal/bytealg.MaxLen"], apart := false }
def FilesNamesSaid : Prop := filesNamesRow.holds Try.pinned (OpenSpec.ofChange filesNamesSpec)

/-- ITS FALSE NEIGHBOUR: 'it returns false'. Refute it at one input. -/
def filesNamesWrong : ChangeSpec := { name := "filesNames", fn := fun _ => fun
  | [] => { results := [.lit (.bool false)], args := [] }
  | _ => none }
def FilesNamesWrongFalsely : Prop := filesNamesRow.holds Try.pinned (OpenSpec.ofChange filesNamesWrong)

/-- 'bastionlaw17.FilesChanges': WHATEVER THE INPUT: true; the input reads as it did. -/
def filesChangesSpec : ChangeSpec := { name := "filesChanges", fn := fun _ => fun
  | [d1, d2, d3, d4] => { results := [.lit (.bool true)], args := [d1, d2, d3, d4] }
  | _ => none }
def filesChangesRow : OpenClaim := { program := "ytbamofeocfbjbaa", sum := "7f20d574e95964d8aa1b2c9ff09029f6b6187f157c0b258c8c8babf5f1d75a8c", func := "bastion/bastionlaw17.FilesChanges", spec := "filesChanges", inPlace := ["internal/bytealg.IndexByteString", "internal/bytealg.IndexString", "internal/bytealg.abigen_runtime_cmpstring", "slices.overlaps[bastion/api.File]"], unfollowed := true, recurses := true, named := ["internal/bytealg.MaxLen"], apart := false }
def FilesChangesSaid : Prop := filesChangesRow.holds Try.pinned (OpenSpec.ofChange filesChangesSpec)

/-- ITS FALSE NEIGHBOUR: 'it returns false'. Refute it at one input. -/
def filesChangesWrong : ChangeSpec := { name := "filesChanges", fn := fun _ => fun
  | [d1, d2, d3, d4] => { results := [.lit (.bool false)], args := [d1, d2, d3, d4] }
  | _ => none }
def FilesChangesWrongFalsely : Prop := filesChangesRow.holds Try.pinned (OpenSpec.ofChange filesChangesWrong)

/-- 'bastionlaw17.FilesMap': WHATEVER THE INPUT: true; the input reads as it did. -/
def filesMapSpec : ChangeSpec := { name := "filesMap", fn := fun _ => fun
  | [d1, d2, d3] => { results := [.lit (.bool true)], args := [d1, d2, d3] }
  | _ => none }
def filesMapRow : OpenClaim := { program := "ytbamofeocfbjbaa", sum := "7f20d574e95964d8aa1b2c9ff09029f6b6187f157c0b258c8c8babf5f1d75a8c", func := "bastion/bastionlaw17.FilesMap", spec := "filesMap", inPlace := ["internal/bytealg.IndexByteString", "internal/bytealg.IndexString", "internal/bytealg.abigen_runtime_cmpstring", "slices.overlaps[bastion/api.File]"], unfollowed := true, recurses := true, named := ["internal/bytealg.MaxLen"], apart := false }
def FilesMapSaid : Prop := filesMapRow.holds Try.pinned (OpenSpec.ofChange filesMapSpec)

/-- ITS FALSE NEIGHBOUR: 'it returns false'. Refute it at one input. -/
def filesMapWrong : ChangeSpec := { name := "filesMap", fn := fun _ => fun
  | [d1, d2, d3] => { results := [.lit (.bool false)], args := [d1, d2, d3] }
  | _ => none }
def FilesMapWrongFalsely : Prop := filesMapRow.holds Try.pinned (OpenSpec.ofChange filesMapWrong)

/- THE SECOND FORM. 'bulk': how many values and letters a reading holds, each counted each time it is reached (what is shared counts as often as it is met; a slice's spare places count too). A statement '..UptoSaid' is the law's where the arguments, and the package variables that the reading takes, are together of bulk at most 1048576: NARROWER than '..Said'. Prove '..Said' where nothing that the law and all that it calls make is longer than what came in: it says more and counts as full. Else prove '..UptoSaid'. A law counts once. -/
mutual
def uptoBulk {H : Type} : DataW H → Nat
  | .lit (.string bytes) => bytes.length + 1
  | .lit _ => 1
  | .nil => 1
  | .ptr d => uptoBulk d + 1
  | .slice elems spare => uptoBulkAll elems + uptoBulkAll spare + 1
  | .agg parts => uptoBulkAll parts + 1
  | .iface _ d => uptoBulk d + 1
  | .map entries => uptoBulkEntries entries + 1
  | .held _ => 1
def uptoBulkAll {H : Type} : List (DataW H) → Nat
  | [] => 0
  | d :: r => uptoBulk d + uptoBulkAll r
def uptoBulkEntries {H : Type} : List (Lit × DataW H) → Nat
  | [] => 0
  | x :: r => uptoBulkEntry x + uptoBulkEntries r
def uptoBulkEntry {H : Type} : Lit × DataW H → Nat
  | (.string bytes, d) => bytes.length + uptoBulk d + 1
  | (_, d) => uptoBulk d + 1
 end
def uptoSmall : (H : Type) → List (DataW H) → Bool := fun _ ds => decide (uptoBulkAll ds ≤ 1048576)
def OpenSpec.upto (s : _root_.Go.ChangeSpec) : _root_.Go.OpenSpec := { _root_.Go.OpenSpec.ofChange s with cond := some uptoSmall }

/-- 'bastionlaw11.ExprLogic', WHERE WHAT IT READS IS OF BULK AT MOST 1048576: true; the input reads as it did. -/
def exprLogicUptoRow : OpenClaim := { program := "ytbamofeocfbjbaa", sum := "7f20d574e95964d8aa1b2c9ff09029f6b6187f157c0b258c8c8babf5f1d75a8c", func := "bastion/bastionlaw11.ExprLogic", spec := "exprLogic", unfollowed := true, recurses := true, apart := false, narrowed := true }
def ExprLogicUptoSaid : Prop := exprLogicUptoRow.holds Try.pinned (OpenSpec.upto exprLogicSpec)

/-- 'bastionlaw11.ExprNames', WHERE WHAT IT READS IS OF BULK AT MOST 1048576: true; the input reads as it did. -/
def exprNamesUptoRow : OpenClaim := { program := "ytbamofeocfbjbaa", sum := "7f20d574e95964d8aa1b2c9ff09029f6b6187f157c0b258c8c8babf5f1d75a8c", func := "bastion/bastionlaw11.ExprNames", spec := "exprNames", unfollowed := true, recurses := true, apart := false, narrowed := true }
def ExprNamesUptoSaid : Prop := exprNamesUptoRow.holds Try.pinned (OpenSpec.upto exprNamesSpec)

/-- 'bastionlaw11.ExprValues', WHERE WHAT IT READS IS OF BULK AT MOST 1048576: true; the input reads as it did. -/
def exprValuesUptoRow : OpenClaim := { program := "ytbamofeocfbjbaa", sum := "7f20d574e95964d8aa1b2c9ff09029f6b6187f157c0b258c8c8babf5f1d75a8c", func := "bastion/bastionlaw11.ExprValues", spec := "exprValues", unfollowed := true, recurses := true, apart := false, narrowed := true }
def ExprValuesUptoSaid : Prop := exprValuesUptoRow.holds Try.pinned (OpenSpec.upto exprValuesSpec)

/-- 'bastionlaw11.ExprBrackets', WHERE WHAT IT READS IS OF BULK AT MOST 1048576: true; the input reads as it did. -/
def exprBracketsUptoRow : OpenClaim := { program := "ytbamofeocfbjbaa", sum := "7f20d574e95964d8aa1b2c9ff09029f6b6187f157c0b258c8c8babf5f1d75a8c", func := "bastion/bastionlaw11.ExprBrackets", spec := "exprBrackets", unfollowed := true, recurses := true, apart := false, narrowed := true }
def ExprBracketsUptoSaid : Prop := exprBracketsUptoRow.holds Try.pinned (OpenSpec.upto exprBracketsSpec)

/-- 'bastionlaw17.FilesAsks', WHERE WHAT IT READS IS OF BULK AT MOST 1048576: true; the input reads as it did. -/
def filesAsksUptoRow : OpenClaim := { program := "ytbamofeocfbjbaa", sum := "7f20d574e95964d8aa1b2c9ff09029f6b6187f157c0b258c8c8babf5f1d75a8c", func := "bastion/bastionlaw17.FilesAsks", spec := "filesAsks", inPlace := ["internal/bytealg.IndexByteString", "internal/bytealg.IndexString"], unfollowed := true, recurses := true, named := ["internal/bytealg.MaxLen"], apart := false, narrowed := true }
def FilesAsksUptoSaid : Prop := filesAsksUptoRow.holds Try.pinned (OpenSpec.upto filesAsksSpec)

/-- 'bastionlaw17.FilesLaid', WHERE WHAT IT READS IS OF BULK AT MOST 1048576: true; the input reads as it did. -/
def filesLaidUptoRow : OpenClaim := { program := "ytbamofeocfbjbaa", sum := "7f20d574e95964d8aa1b2c9ff09029f6b6187f157c0b258c8c8babf5f1d75a8c", func := "bastion/bastionlaw17.FilesLaid", spec := "filesLaid", inPlace := ["internal/bytealg.IndexByteString", "internal/bytealg.IndexString", "internal/bytealg.abigen_runtime_cmpstring", "slices.overlaps[bastion/api.File]"], unfollowed := true, recurses := true, named := ["internal/bytealg.MaxLen"], apart := false, narrowed := true }
def FilesLaidUptoSaid : Prop := filesLaidUptoRow.holds Try.pinned (OpenSpec.upto filesLaidSpec)

/-- 'bastionlaw17.FilesNames', WHERE WHAT IT READS IS OF BULK AT MOST 1048576: true; the input reads as it did. -/
def filesNamesUptoRow : OpenClaim := { program := "ytbamofeocfbjbaa", sum := "7f20d574e95964d8aa1b2c9ff09029f6b6187f157c0b258c8c8babf5f1d75a8c", func := "bastion/bastionlaw17.FilesNames", spec := "filesNames", inPlace := ["internal/bytealg.IndexByteString", "internal/bytealg.IndexString", "internal/bytealg.abigen_runtime_cmpstring", "slices.overlaps[bastion/api.File]"], unfollowed := true, recurses := true, named := ["internal/bytealg.MaxLen"], apart := false, narrowed := true }
def FilesNamesUptoSaid : Prop := filesNamesUptoRow.holds Try.pinned (OpenSpec.upto filesNamesSpec)

/-- 'bastionlaw17.FilesChanges', WHERE WHAT IT READS IS OF BULK AT MOST 1048576: true; the input reads as it did. -/
def filesChangesUptoRow : OpenClaim := { program := "ytbamofeocfbjbaa", sum := "7f20d574e95964d8aa1b2c9ff09029f6b6187f157c0b258c8c8babf5f1d75a8c", func := "bastion/bastionlaw17.FilesChanges", spec := "filesChanges", inPlace := ["internal/bytealg.IndexByteString", "internal/bytealg.IndexString", "internal/bytealg.abigen_runtime_cmpstring", "slices.overlaps[bastion/api.File]"], unfollowed := true, recurses := true, named := ["internal/bytealg.MaxLen"], apart := false, narrowed := true }
def FilesChangesUptoSaid : Prop := filesChangesUptoRow.holds Try.pinned (OpenSpec.upto filesChangesSpec)

/-- 'bastionlaw17.FilesMap', WHERE WHAT IT READS IS OF BULK AT MOST 1048576: true; the input reads as it did. -/
def filesMapUptoRow : OpenClaim := { program := "ytbamofeocfbjbaa", sum := "7f20d574e95964d8aa1b2c9ff09029f6b6187f157c0b258c8c8babf5f1d75a8c", func := "bastion/bastionlaw17.FilesMap", spec := "filesMap", inPlace := ["internal/bytealg.IndexByteString", "internal/bytealg.IndexString", "internal/bytealg.abigen_runtime_cmpstring", "slices.overlaps[bastion/api.File]"], unfollowed := true, recurses := true, named := ["internal/bytealg.MaxLen"], apart := false, narrowed := true }
def FilesMapUptoSaid : Prop := filesMapUptoRow.holds Try.pinned (OpenSpec.upto filesMapSpec)

end Rows
end Go.Proofs.Ytbamofeocfbjbaa
