/-
  No cell of these rows narrows 'for every input' (looked for: loops, veiled, ifaces, maps, wideKeys, modest, calm, conditions, laid).
  DERIVED. THE GIVEN ROWS OF THIS SEAT. 10 by the template 'for every input the law returns true; each argument reads behind the call as it read before'; 0 by the template 'total and deterministic' (their statements: YtklhioaokogpdaaTotals.lean).
  GIVEN WITH THE SEED: the statements are not yours to turn. If you find one false, say at which input.
  Laid BY PROGRAM, IN A SANDBOX (cutbox-rows.mjs): the forced cells as the released guide's own fill.sh prints them over the translation 9018191e7233918d… (all of the seat's roots in one cut). By AI agents, Wed Nov 11 2026. No macro, syntax, notation, axiom, sorry.
-/
import Derived.Test.YtklhioaokogpdaaChecked
import GoSem.Claim
import GoSem.ClaimJoined
import GoSem.ClaimMapViews
import Derived.JoinedTies
import Derived.KernelRfl
namespace Go.Proofs.Ytklhioaokogpdaa
/- THE CELL 'sum', in the pinned program and in every row, IS THE sha256 OF THE DUMP (.gsa) THAT YtklhioaokogpdaaProg.lean LOADS. Nothing in Lean hashes anything: it is a label: what it is worth is what the hold of that sum in a sandbox is worth. -/
noncomputable def Try.pinned : Pinned := { name := "ytklhioaokogpdaa", sum := "9018191e7233918d6f20f6552f4ab3f3e4f961190994d3e998367ccadf158fc7", checked := Try.checked }
namespace Rows
def none {H : Type} : Left H := { results := [], args := [] }

/-- 'bastionlaw05.FreemapLoads': WHATEVER THE INPUT: true; the input reads as it did. -/
def freemapLoadsSpec : ChangeSpec := { name := "freemapLoads", fn := fun _ => fun
  | [d] => { results := [.lit (.bool true)], args := [d] }
  | _ => none }
def freemapLoadsRow : OpenClaim := { program := "ytklhioaokogpdaa", sum := "9018191e7233918d6f20f6552f4ab3f3e4f961190994d3e998367ccadf158fc7", func := "bastion/bastionlaw05.FreemapLoads", spec := "freemapLoads", unfollowed := true, recurses := true, apart := false }
def FreemapLoadsSaid : Prop := freemapLoadsRow.holds Try.pinned (OpenSpec.ofChange freemapLoadsSpec)

/-- ITS FALSE NEIGHBOUR: 'it returns false'. Refute it at one input. -/
def freemapLoadsWrong : ChangeSpec := { name := "freemapLoads", fn := fun _ => fun
  | [d] => { results := [.lit (.bool false)], args := [d] }
  | _ => none }
def FreemapLoadsWrongFalsely : Prop := freemapLoadsRow.holds Try.pinned (OpenSpec.ofChange freemapLoadsWrong)

/-- 'bastionlaw05.FreemapTakes': WHATEVER THE INPUT: true; the input reads as it did. -/
def freemapTakesSpec : ChangeSpec := { name := "freemapTakes", fn := fun _ => fun
  | [d1, d2] => { results := [.lit (.bool true)], args := [d1, d2] }
  | _ => none }
def freemapTakesRow : OpenClaim := { program := "ytklhioaokogpdaa", sum := "9018191e7233918d6f20f6552f4ab3f3e4f961190994d3e998367ccadf158fc7", func := "bastion/bastionlaw05.FreemapTakes", spec := "freemapTakes", unfollowed := true, recurses := true, apart := false }
def FreemapTakesSaid : Prop := freemapTakesRow.holds Try.pinned (OpenSpec.ofChange freemapTakesSpec)

/-- ITS FALSE NEIGHBOUR: 'it returns false'. Refute it at one input. -/
def freemapTakesWrong : ChangeSpec := { name := "freemapTakes", fn := fun _ => fun
  | [d1, d2] => { results := [.lit (.bool false)], args := [d1, d2] }
  | _ => none }
def FreemapTakesWrongFalsely : Prop := freemapTakesRow.holds Try.pinned (OpenSpec.ofChange freemapTakesWrong)

/-- 'bastionlaw25.JobsOnce': WHATEVER THE INPUT: true; the input reads as it did. -/
def jobsOnceSpec : ChangeSpec := { name := "jobsOnce", fn := fun _ => fun
  | [d1, d2] => { results := [.lit (.bool true)], args := [d1, d2] }
  | _ => none }
def jobsOnceRow : OpenClaim := { program := "ytklhioaokogpdaa", sum := "9018191e7233918d6f20f6552f4ab3f3e4f961190994d3e998367ccadf158fc7", func := "bastion/bastionlaw25.JobsOnce", spec := "jobsOnce", unfollowed := true, recurses := true, apart := false }
def JobsOnceSaid : Prop := jobsOnceRow.holds Try.pinned (OpenSpec.ofChange jobsOnceSpec)

/-- ITS FALSE NEIGHBOUR: 'it returns false'. Refute it at one input. -/
def jobsOnceWrong : ChangeSpec := { name := "jobsOnce", fn := fun _ => fun
  | [d1, d2] => { results := [.lit (.bool false)], args := [d1, d2] }
  | _ => none }
def JobsOnceWrongFalsely : Prop := jobsOnceRow.holds Try.pinned (OpenSpec.ofChange jobsOnceWrong)

/-- 'bastionlaw25.JobsEnds': WHATEVER THE INPUT: true; the input reads as it did. -/
def jobsEndsSpec : ChangeSpec := { name := "jobsEnds", fn := fun _ => fun
  | [d1, d2, d3] => { results := [.lit (.bool true)], args := [d1, d2, d3] }
  | _ => none }
def jobsEndsRow : OpenClaim := { program := "ytklhioaokogpdaa", sum := "9018191e7233918d6f20f6552f4ab3f3e4f961190994d3e998367ccadf158fc7", func := "bastion/bastionlaw25.JobsEnds", spec := "jobsEnds", unfollowed := true, recurses := true, apart := false }
def JobsEndsSaid : Prop := jobsEndsRow.holds Try.pinned (OpenSpec.ofChange jobsEndsSpec)

/-- ITS FALSE NEIGHBOUR: 'it returns false'. Refute it at one input. -/
def jobsEndsWrong : ChangeSpec := { name := "jobsEnds", fn := fun _ => fun
  | [d1, d2, d3] => { results := [.lit (.bool false)], args := [d1, d2, d3] }
  | _ => none }
def JobsEndsWrongFalsely : Prop := jobsEndsRow.holds Try.pinned (OpenSpec.ofChange jobsEndsWrong)

/-- 'bastionlaw05.FreemapNames': WHATEVER THE INPUT: true; the input reads as it did. -/
def freemapNamesSpec : ChangeSpec := { name := "freemapNames", fn := fun _ => fun
  | [] => { results := [.lit (.bool true)], args := [] }
  | _ => none }
def freemapNamesRow : OpenClaim := { program := "ytklhioaokogpdaa", sum := "9018191e7233918d6f20f6552f4ab3f3e4f961190994d3e998367ccadf158fc7", func := "bastion/bastionlaw05.FreemapNames", spec := "freemapNames", unfollowed := true, recurses := true, apart := false }
def FreemapNamesSaid : Prop := freemapNamesRow.holds Try.pinned (OpenSpec.ofChange freemapNamesSpec)

/-- ITS FALSE NEIGHBOUR: 'it returns false'. Refute it at one input. -/
def freemapNamesWrong : ChangeSpec := { name := "freemapNames", fn := fun _ => fun
  | [] => { results := [.lit (.bool false)], args := [] }
  | _ => none }
def FreemapNamesWrongFalsely : Prop := freemapNamesRow.holds Try.pinned (OpenSpec.ofChange freemapNamesWrong)

/-- 'bastionlaw05.FreemapPlays': WHATEVER THE INPUT: true; the input reads as it did. -/
def freemapPlaysSpec : ChangeSpec := { name := "freemapPlays", fn := fun _ => fun
  | [d1, d2] => { results := [.lit (.bool true)], args := [d1, d2] }
  | _ => none }
def freemapPlaysRow : OpenClaim := { program := "ytklhioaokogpdaa", sum := "9018191e7233918d6f20f6552f4ab3f3e4f961190994d3e998367ccadf158fc7", func := "bastion/bastionlaw05.FreemapPlays", spec := "freemapPlays", unfollowed := true, recurses := true, apart := false }
def FreemapPlaysSaid : Prop := freemapPlaysRow.holds Try.pinned (OpenSpec.ofChange freemapPlaysSpec)

/-- ITS FALSE NEIGHBOUR: 'it returns false'. Refute it at one input. -/
def freemapPlaysWrong : ChangeSpec := { name := "freemapPlays", fn := fun _ => fun
  | [d1, d2] => { results := [.lit (.bool false)], args := [d1, d2] }
  | _ => none }
def FreemapPlaysWrongFalsely : Prop := freemapPlaysRow.holds Try.pinned (OpenSpec.ofChange freemapPlaysWrong)

/-- 'bastionlaw05.FreemapCounts': WHATEVER THE INPUT: true; the input reads as it did. -/
def freemapCountsSpec : ChangeSpec := { name := "freemapCounts", fn := fun _ => fun
  | [d1, d2, d3] => { results := [.lit (.bool true)], args := [d1, d2, d3] }
  | _ => none }
def freemapCountsRow : OpenClaim := { program := "ytklhioaokogpdaa", sum := "9018191e7233918d6f20f6552f4ab3f3e4f961190994d3e998367ccadf158fc7", func := "bastion/bastionlaw05.FreemapCounts", spec := "freemapCounts", unfollowed := true, recurses := true, apart := false }
def FreemapCountsSaid : Prop := freemapCountsRow.holds Try.pinned (OpenSpec.ofChange freemapCountsSpec)

/-- ITS FALSE NEIGHBOUR: 'it returns false'. Refute it at one input. -/
def freemapCountsWrong : ChangeSpec := { name := "freemapCounts", fn := fun _ => fun
  | [d1, d2, d3] => { results := [.lit (.bool false)], args := [d1, d2, d3] }
  | _ => none }
def FreemapCountsWrongFalsely : Prop := freemapCountsRow.holds Try.pinned (OpenSpec.ofChange freemapCountsWrong)

/-- 'bastionlaw25.JobsLoads': WHATEVER THE INPUT: true; the input reads as it did. -/
def jobsLoadsSpec : ChangeSpec := { name := "jobsLoads", fn := fun _ => fun
  | [d1, d2] => { results := [.lit (.bool true)], args := [d1, d2] }
  | _ => none }
def jobsLoadsRow : OpenClaim := { program := "ytklhioaokogpdaa", sum := "9018191e7233918d6f20f6552f4ab3f3e4f961190994d3e998367ccadf158fc7", func := "bastion/bastionlaw25.JobsLoads", spec := "jobsLoads", unfollowed := true, recurses := true, apart := false }
def JobsLoadsSaid : Prop := jobsLoadsRow.holds Try.pinned (OpenSpec.ofChange jobsLoadsSpec)

/-- ITS FALSE NEIGHBOUR: 'it returns false'. Refute it at one input. -/
def jobsLoadsWrong : ChangeSpec := { name := "jobsLoads", fn := fun _ => fun
  | [d1, d2] => { results := [.lit (.bool false)], args := [d1, d2] }
  | _ => none }
def JobsLoadsWrongFalsely : Prop := jobsLoadsRow.holds Try.pinned (OpenSpec.ofChange jobsLoadsWrong)

/-- 'bastionlaw25.JobsNames': WHATEVER THE INPUT: true; the input reads as it did. -/
def jobsNamesSpec : ChangeSpec := { name := "jobsNames", fn := fun _ => fun
  | [] => { results := [.lit (.bool true)], args := [] }
  | _ => none }
def jobsNamesRow : OpenClaim := { program := "ytklhioaokogpdaa", sum := "9018191e7233918d6f20f6552f4ab3f3e4f961190994d3e998367ccadf158fc7", func := "bastion/bastionlaw25.JobsNames", spec := "jobsNames", unfollowed := true, recurses := true, apart := false }
def JobsNamesSaid : Prop := jobsNamesRow.holds Try.pinned (OpenSpec.ofChange jobsNamesSpec)

/-- ITS FALSE NEIGHBOUR: 'it returns false'. Refute it at one input. -/
def jobsNamesWrong : ChangeSpec := { name := "jobsNames", fn := fun _ => fun
  | [] => { results := [.lit (.bool false)], args := [] }
  | _ => none }
def JobsNamesWrongFalsely : Prop := jobsNamesRow.holds Try.pinned (OpenSpec.ofChange jobsNamesWrong)

/-- 'bastionlaw25.JobsPlays': WHATEVER THE INPUT: true; the input reads as it did. -/
def jobsPlaysSpec : ChangeSpec := { name := "jobsPlays", fn := fun _ => fun
  | [d1, d2, d3] => { results := [.lit (.bool true)], args := [d1, d2, d3] }
  | _ => none }
def jobsPlaysRow : OpenClaim := { program := "ytklhioaokogpdaa", sum := "9018191e7233918d6f20f6552f4ab3f3e4f961190994d3e998367ccadf158fc7", func := "bastion/bastionlaw25.JobsPlays", spec := "jobsPlays", unfollowed := true, recurses := true, apart := false }
def JobsPlaysSaid : Prop := jobsPlaysRow.holds Try.pinned (OpenSpec.ofChange jobsPlaysSpec)

/-- ITS FALSE NEIGHBOUR: 'it returns false'. Refute it at one input. -/
def jobsPlaysWrong : ChangeSpec := { name := "jobsPlays", fn := fun _ => fun
  | [d1, d2, d3] => { results := [.lit (.bool false)], args := [d1, d2, d3] }
  | _ => none }
def JobsPlaysWrongFalsely : Prop := jobsPlaysRow.holds Try.pinned (OpenSpec.ofChange jobsPlaysWrong)

/- THE SECOND FORM. 'bulk': how many values and letters a reading holds, each counted each time it is reached (what is shared counts as often as it is met; a slice's spare places count too). A statement '..UptoSaid' is the law's where the arguments, and the package variables that the reading takes, are together of bulk at most 1048576: NARROWER than '..Said'. Prove '..Said' where nothing that the law and all that it calls make is longer than what came in: it says more and counts as full. Else prove '..UptoSaid'. A law counts once. -/
mutual
def uptoBulk {H : Type} : DataW H → Nat
  | .lit (.string bytes) => bytes.length + 1
  | .lit _ => 1
  | .nil => 1
  | .ptr d => uptoBulk d + 1
  | .slice elems spare => uptoBulkAll elems + uptoBulkAll spare + 1
  | .agg parts => uptoBulkAll parts + 1
  | .iface _ d => uptoBulk d + 1
  | .map entries => uptoBulkEntries entries + 1
  | .held _ => 1
def uptoBulkAll {H : Type} : List (DataW H) → Nat
  | [] => 0
  | d :: r => uptoBulk d + uptoBulkAll r
def uptoBulkEntries {H : Type} : List (Lit × DataW H) → Nat
  | [] => 0
  | x :: r => uptoBulkEntry x + uptoBulkEntries r
def uptoBulkEntry {H : Type} : Lit × DataW H → Nat
  | (.string bytes, d) => bytes.length + uptoBulk d + 1
  | (_, d) => uptoBulk d + 1
 end
def uptoSmall : (H : Type) → List (DataW H) → Bool := fun _ ds => decide (uptoBulkAll ds ≤ 1048576)
def OpenSpec.upto (s : _root_.Go.ChangeSpec) : _root_.Go.OpenSpec := { _root_.Go.OpenSpec.ofChange s with cond := some uptoSmall }

/-- 'bastionlaw05.FreemapLoads', WHERE WHAT IT READS IS OF BULK AT MOST 1048576: true; the input reads as it did. -/
def freemapLoadsUptoRow : OpenClaim := { program := "ytklhioaokogpdaa", sum := "9018191e7233918d6f20f6552f4ab3f3e4f961190994d3e998367ccadf158fc7", func := "bastion/bastionlaw05.FreemapLoads", spec := "freemapLoads", unfollowed := true, recurses := true, apart := false, narrowed := true }
def FreemapLoadsUptoSaid : Prop := freemapLoadsUptoRow.holds Try.pinned (OpenSpec.upto freemapLoadsSpec)

/-- 'bastionlaw05.FreemapTakes', WHERE WHAT IT READS IS OF BULK AT MOST 1048576: true; the input reads as it did. -/
def freemapTakesUptoRow : OpenClaim := { program := "ytklhioaokogpdaa", sum := "9018191e7233918d6f20f6552f4ab3f3e4f961190994d3e998367ccadf158fc7", func := "bastion/bastionlaw05.FreemapTakes", spec := "freemapTakes", unfollowed := true, recurses := true, apart := false, narrowed := true }
def FreemapTakesUptoSaid : Prop := freemapTakesUptoRow.holds Try.pinned (OpenSpec.upto freemapTakesSpec)

/-- 'bastionlaw25.JobsOnce', WHERE WHAT IT READS IS OF BULK AT MOST 1048576: true; the input reads as it did. -/
def jobsOnceUptoRow : OpenClaim := { program := "ytklhioaokogpdaa", sum := "9018191e7233918d6f20f6552f4ab3f3e4f961190994d3e998367ccadf158fc7", func := "bastion/bastionlaw25.JobsOnce", spec := "jobsOnce", unfollowed := true, recurses := true, apart := false, narrowed := true }
def JobsOnceUptoSaid : Prop := jobsOnceUptoRow.holds Try.pinned (OpenSpec.upto jobsOnceSpec)

/-- 'bastionlaw25.JobsEnds', WHERE WHAT IT READS IS OF BULK AT MOST 1048576: true; the input reads as it did. -/
def jobsEndsUptoRow : OpenClaim := { program := "ytklhioaokogpdaa", sum := "9018191e7233918d6f20f6552f4ab3f3e4f961190994d3e998367ccadf158fc7", func := "bastion/bastionlaw25.JobsEnds", spec := "jobsEnds", unfollowed := true, recurses := true, apart := false, narrowed := true }
def JobsEndsUptoSaid : Prop := jobsEndsUptoRow.holds Try.pinned (OpenSpec.upto jobsEndsSpec)

/-- 'bastionlaw05.FreemapNames', WHERE WHAT IT READS IS OF BULK AT MOST 1048576: true; the input reads as it did. -/
def freemapNamesUptoRow : OpenClaim := { program := "ytklhioaokogpdaa", sum := "9018191e7233918d6f20f6552f4ab3f3e4f961190994d3e998367ccadf158fc7", func := "bastion/bastionlaw05.FreemapNames", spec := "freemapNames", unfollowed := true, recurses := true, apart := false, narrowed := true }
def FreemapNamesUptoSaid : Prop := freemapNamesUptoRow.holds Try.pinned (OpenSpec.upto freemapNamesSpec)

/-- 'bastionlaw05.FreemapPlays', WHERE WHAT IT READS IS OF BULK AT MOST 1048576: true; the input reads as it did. -/
def freemapPlaysUptoRow : OpenClaim := { program := "ytklhioaokogpdaa", sum := "9018191e7233918d6f20f6552f4ab3f3e4f961190994d3e998367ccadf158fc7", func := "bastion/bastionlaw05.FreemapPlays", spec := "freemapPlays", unfollowed := true, recurses := true, apart := false, narrowed := true }
def FreemapPlaysUptoSaid : Prop := freemapPlaysUptoRow.holds Try.pinned (OpenSpec.upto freemapPlaysSpec)

/-- 'bastionlaw05.FreemapCounts', WHERE WHAT IT READS IS OF BULK AT MOST 1048576: true; the input reads as it did. -/
def freemapCountsUptoRow : OpenClaim := { program := "ytklhioaokogpdaa", sum := "9018191e7233918d6f20f6552f4ab3f3e4f961190994d3e998367ccadf158fc7", func := "bastion/bastionlaw05.FreemapCounts", spec := "freemapCounts", unfollowed := true, recurses := true, apart := false, narrowed := true }
def FreemapCountsUptoSaid : Prop := freemapCountsUptoRow.holds Try.pinned (OpenSpec.upto freemapCountsSpec)

/-- 'bastionlaw25.JobsLoads', WHERE WHAT IT READS IS OF BULK AT MOST 1048576: true; the input reads as it did. -/
def jobsLoadsUptoRow : OpenClaim := { program := "ytklhioaokogpdaa", sum := "9018191e7233918d6f20f6552f4ab3f3e4f961190994d3e998367ccadf158fc7", func := "bastion/bastionlaw25.JobsLoads", spec := "jobsLoads", unfollowed := true, recurses := true, apart := false, narrowed := true }
def JobsLoadsUptoSaid : Prop := jobsLoadsUptoRow.holds Try.pinned (OpenSpec.upto jobsLoadsSpec)

/-- 'bastionlaw25.JobsNames', WHERE WHAT IT READS IS OF BULK AT MOST 1048576: true; the input reads as it did. -/
def jobsNamesUptoRow : OpenClaim := { program := "ytklhioaokogpdaa", sum := "9018191e7233918d6f20f6552f4ab3f3e4f961190994d3e998367ccadf158fc7", func := "bastion/bastionlaw25.JobsNames", spec := "jobsNames", unfollowed := true, recurses := true, apart := false, narrowed := true }
def JobsNamesUptoSaid : Prop := jobsNamesUptoRow.holds Try.pinned (OpenSpec.upto jobsNamesSpec)

/-- 'bastionlaw25.JobsPlays', WHERE WHAT IT READS IS OF BULK AT MOST 1048576: true; the input reads as it did. -/
def jobsPlaysUptoRow : OpenClaim := { program := "ytklhioaokogpdaa", sum := "9018191e7233918d6f20f6552f4ab3f3e4f961190994d3e998367ccadf158fc7", func := "bastion/bastionlaw25.JobsPlays", spec := "jobsPlays", unfollowed := true, recurses := true, apart := false, narrowed := true }
def JobsPlaysUptoSaid : Prop := jobsPlaysUptoRow.holds Try.pinned (OpenSpec.upto jobsPlaysSpec)

end Rows
end Go.Proofs.Ytklhioaokogpdaa
