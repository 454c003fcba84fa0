/-
  No cell of these rows narrows 'for every input' (looked for: loops, veiled, ifaces, maps, wideKeys, modest, calm, conditions, laid).
  DERIVED. THE GIVEN ROWS OF THIS SEAT. 10 by the template 'for every input the law returns true; each argument reads behind the call as it read before'; 0 by the template 'total and deterministic' (their statements: YtaahkamnpobofaaTotals.lean).
  GIVEN WITH THE SEED: the statements are not yours to turn. If you find one false, say at which input.
  Laid BY PROGRAM, IN A SANDBOX (cutbox-rows.mjs): the forced cells as the released guide's own fill.sh prints them over the translation 285e7a97ed3297a1… (all of the seat's roots in one cut). By AI agents, Wed Nov 11 2026. No macro, syntax, notation, axiom, sorry.
-/
import Derived.Test.YtaahkamnpobofaaChecked
import GoSem.Claim
import GoSem.ClaimJoined
import GoSem.ClaimMapViews
import Derived.JoinedTies
import Derived.KernelRfl
namespace Go.Proofs.Ytaahkamnpobofaa
/- THE CELL 'sum', in the pinned program and in every row, IS THE sha256 OF THE DUMP (.gsa) THAT YtaahkamnpobofaaProg.lean LOADS. Nothing in Lean hashes anything: it is a label: what it is worth is what the hold of that sum in a sandbox is worth. -/
noncomputable def Try.pinned : Pinned := { name := "ytaahkamnpobofaa", sum := "285e7a97ed3297a16350d572c6172212362d7761ac25e99a28b415cb133ea257", checked := Try.checked }
namespace Rows
def none {H : Type} : Left H := { results := [], args := [] }

/-- 'bastionlaw26.BadgeHeard': WHATEVER THE INPUT: true; the input reads as it did. -/
def badgeHeardSpec : ChangeSpec := { name := "badgeHeard", fn := fun _ => fun
  | [d1, d2, d3] => { results := [.lit (.bool true)], args := [d1, d2, d3] }
  | _ => none }
def badgeHeardRow : OpenClaim := { program := "ytaahkamnpobofaa", sum := "285e7a97ed3297a16350d572c6172212362d7761ac25e99a28b415cb133ea257", func := "bastion/bastionlaw26.BadgeHeard", spec := "badgeHeard", unfollowed := true, recurses := true, apart := false }
def BadgeHeardSaid : Prop := badgeHeardRow.holds Try.pinned (OpenSpec.ofChange badgeHeardSpec)

/-- ITS FALSE NEIGHBOUR: 'it returns false'. Refute it at one input. -/
def badgeHeardWrong : ChangeSpec := { name := "badgeHeard", fn := fun _ => fun
  | [d1, d2, d3] => { results := [.lit (.bool false)], args := [d1, d2, d3] }
  | _ => none }
def BadgeHeardWrongFalsely : Prop := badgeHeardRow.holds Try.pinned (OpenSpec.ofChange badgeHeardWrong)

/-- 'bastionlaw23.WheelOnce': WHATEVER THE INPUT: true; the input reads as it did. -/
def wheelOnceSpec : ChangeSpec := { name := "wheelOnce", fn := fun _ => fun
  | [d1, d2, d3] => { results := [.lit (.bool true)], args := [d1, d2, d3] }
  | _ => none }
def wheelOnceRow : OpenClaim := { program := "ytaahkamnpobofaa", sum := "285e7a97ed3297a16350d572c6172212362d7761ac25e99a28b415cb133ea257", func := "bastion/bastionlaw23.WheelOnce", spec := "wheelOnce", unfollowed := true, recurses := true, apart := false }
def WheelOnceSaid : Prop := wheelOnceRow.holds Try.pinned (OpenSpec.ofChange wheelOnceSpec)

/-- ITS FALSE NEIGHBOUR: 'it returns false'. Refute it at one input. -/
def wheelOnceWrong : ChangeSpec := { name := "wheelOnce", fn := fun _ => fun
  | [d1, d2, d3] => { results := [.lit (.bool false)], args := [d1, d2, d3] }
  | _ => none }
def WheelOnceWrongFalsely : Prop := wheelOnceRow.holds Try.pinned (OpenSpec.ofChange wheelOnceWrong)

/-- 'bastionlaw26.BadgeLoads': WHATEVER THE INPUT: true; the input reads as it did. -/
def badgeLoadsSpec : ChangeSpec := { name := "badgeLoads", fn := fun _ => fun
  | [d] => { results := [.lit (.bool true)], args := [d] }
  | _ => none }
def badgeLoadsRow : OpenClaim := { program := "ytaahkamnpobofaa", sum := "285e7a97ed3297a16350d572c6172212362d7761ac25e99a28b415cb133ea257", func := "bastion/bastionlaw26.BadgeLoads", spec := "badgeLoads", unfollowed := true, recurses := true, apart := false }
def BadgeLoadsSaid : Prop := badgeLoadsRow.holds Try.pinned (OpenSpec.ofChange badgeLoadsSpec)

/-- ITS FALSE NEIGHBOUR: 'it returns false'. Refute it at one input. -/
def badgeLoadsWrong : ChangeSpec := { name := "badgeLoads", fn := fun _ => fun
  | [d] => { results := [.lit (.bool false)], args := [d] }
  | _ => none }
def BadgeLoadsWrongFalsely : Prop := badgeLoadsRow.holds Try.pinned (OpenSpec.ofChange badgeLoadsWrong)

/-- 'bastionlaw23.WheelNames': WHATEVER THE INPUT: true; the input reads as it did. -/
def wheelNamesSpec : ChangeSpec := { name := "wheelNames", fn := fun _ => fun
  | [] => { results := [.lit (.bool true)], args := [] }
  | _ => none }
def wheelNamesRow : OpenClaim := { program := "ytaahkamnpobofaa", sum := "285e7a97ed3297a16350d572c6172212362d7761ac25e99a28b415cb133ea257", func := "bastion/bastionlaw23.WheelNames", spec := "wheelNames", inPlace := ["maps.clone"], unfollowed := true, recurses := true, apart := false }
def WheelNamesSaid : Prop := wheelNamesRow.holds Try.pinned (OpenSpec.ofChange wheelNamesSpec)

/-- ITS FALSE NEIGHBOUR: 'it returns false'. Refute it at one input. -/
def wheelNamesWrong : ChangeSpec := { name := "wheelNames", fn := fun _ => fun
  | [] => { results := [.lit (.bool false)], args := [] }
  | _ => none }
def WheelNamesWrongFalsely : Prop := wheelNamesRow.holds Try.pinned (OpenSpec.ofChange wheelNamesWrong)

/-- 'bastionlaw23.WheelPlays': WHATEVER THE INPUT: true; the input reads as it did. -/
def wheelPlaysSpec : ChangeSpec := { name := "wheelPlays", fn := fun _ => fun
  | [d] => { results := [.lit (.bool true)], args := [d] }
  | _ => none }
def wheelPlaysRow : OpenClaim := { program := "ytaahkamnpobofaa", sum := "285e7a97ed3297a16350d572c6172212362d7761ac25e99a28b415cb133ea257", func := "bastion/bastionlaw23.WheelPlays", spec := "wheelPlays", inPlace := ["maps.clone"], unfollowed := true, recurses := true, apart := false }
def WheelPlaysSaid : Prop := wheelPlaysRow.holds Try.pinned (OpenSpec.ofChange wheelPlaysSpec)

/-- ITS FALSE NEIGHBOUR: 'it returns false'. Refute it at one input. -/
def wheelPlaysWrong : ChangeSpec := { name := "wheelPlays", fn := fun _ => fun
  | [d] => { results := [.lit (.bool false)], args := [d] }
  | _ => none }
def WheelPlaysWrongFalsely : Prop := wheelPlaysRow.holds Try.pinned (OpenSpec.ofChange wheelPlaysWrong)

/-- 'bastionlaw26.BadgeBack': WHATEVER THE INPUT: true; the input reads as it did. -/
def badgeBackSpec : ChangeSpec := { name := "badgeBack", fn := fun _ => fun
  | [d1, d2] => { results := [.lit (.bool true)], args := [d1, d2] }
  | _ => none }
def badgeBackRow : OpenClaim := { program := "ytaahkamnpobofaa", sum := "285e7a97ed3297a16350d572c6172212362d7761ac25e99a28b415cb133ea257", func := "bastion/bastionlaw26.BadgeBack", spec := "badgeBack", unfollowed := true, recurses := true, apart := false }
def BadgeBackSaid : Prop := badgeBackRow.holds Try.pinned (OpenSpec.ofChange badgeBackSpec)

/-- ITS FALSE NEIGHBOUR: 'it returns false'. Refute it at one input. -/
def badgeBackWrong : ChangeSpec := { name := "badgeBack", fn := fun _ => fun
  | [d1, d2] => { results := [.lit (.bool false)], args := [d1, d2] }
  | _ => none }
def BadgeBackWrongFalsely : Prop := badgeBackRow.holds Try.pinned (OpenSpec.ofChange badgeBackWrong)

/-- 'bastionlaw26.BadgeRises': WHATEVER THE INPUT: true; the input reads as it did. -/
def badgeRisesSpec : ChangeSpec := { name := "badgeRises", fn := fun _ => fun
  | [d1, d2] => { results := [.lit (.bool true)], args := [d1, d2] }
  | _ => none }
def badgeRisesRow : OpenClaim := { program := "ytaahkamnpobofaa", sum := "285e7a97ed3297a16350d572c6172212362d7761ac25e99a28b415cb133ea257", func := "bastion/bastionlaw26.BadgeRises", spec := "badgeRises", unfollowed := true, recurses := true, apart := false }
def BadgeRisesSaid : Prop := badgeRisesRow.holds Try.pinned (OpenSpec.ofChange badgeRisesSpec)

/-- ITS FALSE NEIGHBOUR: 'it returns false'. Refute it at one input. -/
def badgeRisesWrong : ChangeSpec := { name := "badgeRises", fn := fun _ => fun
  | [d1, d2] => { results := [.lit (.bool false)], args := [d1, d2] }
  | _ => none }
def BadgeRisesWrongFalsely : Prop := badgeRisesRow.holds Try.pinned (OpenSpec.ofChange badgeRisesWrong)

/-- 'bastionlaw26.BadgeNames': WHATEVER THE INPUT: true; the input reads as it did. -/
def badgeNamesSpec : ChangeSpec := { name := "badgeNames", fn := fun _ => fun
  | [] => { results := [.lit (.bool true)], args := [] }
  | _ => none }
def badgeNamesRow : OpenClaim := { program := "ytaahkamnpobofaa", sum := "285e7a97ed3297a16350d572c6172212362d7761ac25e99a28b415cb133ea257", func := "bastion/bastionlaw26.BadgeNames", spec := "badgeNames", unfollowed := true, recurses := true, apart := false }
def BadgeNamesSaid : Prop := badgeNamesRow.holds Try.pinned (OpenSpec.ofChange badgeNamesSpec)

/-- ITS FALSE NEIGHBOUR: 'it returns false'. Refute it at one input. -/
def badgeNamesWrong : ChangeSpec := { name := "badgeNames", fn := fun _ => fun
  | [] => { results := [.lit (.bool false)], args := [] }
  | _ => none }
def BadgeNamesWrongFalsely : Prop := badgeNamesRow.holds Try.pinned (OpenSpec.ofChange badgeNamesWrong)

/-- 'bastionlaw26.BadgePlays': WHATEVER THE INPUT: true; the input reads as it did. -/
def badgePlaysSpec : ChangeSpec := { name := "badgePlays", fn := fun _ => fun
  | [d1, d2] => { results := [.lit (.bool true)], args := [d1, d2] }
  | _ => none }
def badgePlaysRow : OpenClaim := { program := "ytaahkamnpobofaa", sum := "285e7a97ed3297a16350d572c6172212362d7761ac25e99a28b415cb133ea257", func := "bastion/bastionlaw26.BadgePlays", spec := "badgePlays", unfollowed := true, recurses := true, apart := false }
def BadgePlaysSaid : Prop := badgePlaysRow.holds Try.pinned (OpenSpec.ofChange badgePlaysSpec)

/-- ITS FALSE NEIGHBOUR: 'it returns false'. Refute it at one input. -/
def badgePlaysWrong : ChangeSpec := { name := "badgePlays", fn := fun _ => fun
  | [d1, d2] => { results := [.lit (.bool false)], args := [d1, d2] }
  | _ => none }
def BadgePlaysWrongFalsely : Prop := badgePlaysRow.holds Try.pinned (OpenSpec.ofChange badgePlaysWrong)

/-- 'bastionlaw26.BadgeOne': WHATEVER THE INPUT: true; the input reads as it did. -/
def badgeOneSpec : ChangeSpec := { name := "badgeOne", fn := fun _ => fun
  | [d] => { results := [.lit (.bool true)], args := [d] }
  | _ => none }
def badgeOneRow : OpenClaim := { program := "ytaahkamnpobofaa", sum := "285e7a97ed3297a16350d572c6172212362d7761ac25e99a28b415cb133ea257", func := "bastion/bastionlaw26.BadgeOne", spec := "badgeOne", unfollowed := true, recurses := true, apart := false }
def BadgeOneSaid : Prop := badgeOneRow.holds Try.pinned (OpenSpec.ofChange badgeOneSpec)

/-- ITS FALSE NEIGHBOUR: 'it returns false'. Refute it at one input. -/
def badgeOneWrong : ChangeSpec := { name := "badgeOne", fn := fun _ => fun
  | [d] => { results := [.lit (.bool false)], args := [d] }
  | _ => none }
def BadgeOneWrongFalsely : Prop := badgeOneRow.holds Try.pinned (OpenSpec.ofChange badgeOneWrong)

/- THE SECOND FORM. 'bulk': how many values and letters a reading holds, each counted each time it is reached (what is shared counts as often as it is met; a slice's spare places count too). A statement '..UptoSaid' is the law's where the arguments, and the package variables that the reading takes, are together of bulk at most 1048576: NARROWER than '..Said'. Prove '..Said' where nothing that the law and all that it calls make is longer than what came in: it says more and counts as full. Else prove '..UptoSaid'. A law counts once. -/
mutual
def uptoBulk {H : Type} : DataW H → Nat
  | .lit (.string bytes) => bytes.length + 1
  | .lit _ => 1
  | .nil => 1
  | .ptr d => uptoBulk d + 1
  | .slice elems spare => uptoBulkAll elems + uptoBulkAll spare + 1
  | .agg parts => uptoBulkAll parts + 1
  | .iface _ d => uptoBulk d + 1
  | .map entries => uptoBulkEntries entries + 1
  | .held _ => 1
def uptoBulkAll {H : Type} : List (DataW H) → Nat
  | [] => 0
  | d :: r => uptoBulk d + uptoBulkAll r
def uptoBulkEntries {H : Type} : List (Lit × DataW H) → Nat
  | [] => 0
  | x :: r => uptoBulkEntry x + uptoBulkEntries r
def uptoBulkEntry {H : Type} : Lit × DataW H → Nat
  | (.string bytes, d) => bytes.length + uptoBulk d + 1
  | (_, d) => uptoBulk d + 1
 end
def uptoSmall : (H : Type) → List (DataW H) → Bool := fun _ ds => decide (uptoBulkAll ds ≤ 1048576)
def OpenSpec.upto (s : _root_.Go.ChangeSpec) : _root_.Go.OpenSpec := { _root_.Go.OpenSpec.ofChange s with cond := some uptoSmall }

/-- 'bastionlaw26.BadgeHeard', WHERE WHAT IT READS IS OF BULK AT MOST 1048576: true; the input reads as it did. -/
def badgeHeardUptoRow : OpenClaim := { program := "ytaahkamnpobofaa", sum := "285e7a97ed3297a16350d572c6172212362d7761ac25e99a28b415cb133ea257", func := "bastion/bastionlaw26.BadgeHeard", spec := "badgeHeard", unfollowed := true, recurses := true, apart := false, narrowed := true }
def BadgeHeardUptoSaid : Prop := badgeHeardUptoRow.holds Try.pinned (OpenSpec.upto badgeHeardSpec)

/-- 'bastionlaw23.WheelOnce', WHERE WHAT IT READS IS OF BULK AT MOST 1048576: true; the input reads as it did. -/
def wheelOnceUptoRow : OpenClaim := { program := "ytaahkamnpobofaa", sum := "285e7a97ed3297a16350d572c6172212362d7761ac25e99a28b415cb133ea257", func := "bastion/bastionlaw23.WheelOnce", spec := "wheelOnce", unfollowed := true, recurses := true, apart := false, narrowed := true }
def WheelOnceUptoSaid : Prop := wheelOnceUptoRow.holds Try.pinned (OpenSpec.upto wheelOnceSpec)

/-- 'bastionlaw26.BadgeLoads', WHERE WHAT IT READS IS OF BULK AT MOST 1048576: true; the input reads as it did. -/
def badgeLoadsUptoRow : OpenClaim := { program := "ytaahkamnpobofaa", sum := "285e7a97ed3297a16350d572c6172212362d7761ac25e99a28b415cb133ea257", func := "bastion/bastionlaw26.BadgeLoads", spec := "badgeLoads", unfollowed := true, recurses := true, apart := false, narrowed := true }
def BadgeLoadsUptoSaid : Prop := badgeLoadsUptoRow.holds Try.pinned (OpenSpec.upto badgeLoadsSpec)

/-- 'bastionlaw23.WheelNames', WHERE WHAT IT READS IS OF BULK AT MOST 1048576: true; the input reads as it did. -/
def wheelNamesUptoRow : OpenClaim := { program := "ytaahkamnpobofaa", sum := "285e7a97ed3297a16350d572c6172212362d7761ac25e99a28b415cb133ea257", func := "bastion/bastionlaw23.WheelNames", spec := "wheelNames", inPlace := ["maps.clone"], unfollowed := true, recurses := true, apart := false, narrowed := true }
def WheelNamesUptoSaid : Prop := wheelNamesUptoRow.holds Try.pinned (OpenSpec.upto wheelNamesSpec)

/-- 'bastionlaw23.WheelPlays', WHERE WHAT IT READS IS OF BULK AT MOST 1048576: true; the input reads as it did. -/
def wheelPlaysUptoRow : OpenClaim := { program := "ytaahkamnpobofaa", sum := "285e7a97ed3297a16350d572c6172212362d7761ac25e99a28b415cb133ea257", func := "bastion/bastionlaw23.WheelPlays", spec := "wheelPlays", inPlace := ["maps.clone"], unfollowed := true, recurses := true, apart := false, narrowed := true }
def WheelPlaysUptoSaid : Prop := wheelPlaysUptoRow.holds Try.pinned (OpenSpec.upto wheelPlaysSpec)

/-- 'bastionlaw26.BadgeBack', WHERE WHAT IT READS IS OF BULK AT MOST 1048576: true; the input reads as it did. -/
def badgeBackUptoRow : OpenClaim := { program := "ytaahkamnpobofaa", sum := "285e7a97ed3297a16350d572c6172212362d7761ac25e99a28b415cb133ea257", func := "bastion/bastionlaw26.BadgeBack", spec := "badgeBack", unfollowed := true, recurses := true, apart := false, narrowed := true }
def BadgeBackUptoSaid : Prop := badgeBackUptoRow.holds Try.pinned (OpenSpec.upto badgeBackSpec)

/-- 'bastionlaw26.BadgeRises', WHERE WHAT IT READS IS OF BULK AT MOST 1048576: true; the input reads as it did. -/
def badgeRisesUptoRow : OpenClaim := { program := "ytaahkamnpobofaa", sum := "285e7a97ed3297a16350d572c6172212362d7761ac25e99a28b415cb133ea257", func := "bastion/bastionlaw26.BadgeRises", spec := "badgeRises", unfollowed := true, recurses := true, apart := false, narrowed := true }
def BadgeRisesUptoSaid : Prop := badgeRisesUptoRow.holds Try.pinned (OpenSpec.upto badgeRisesSpec)

/-- 'bastionlaw26.BadgeNames', WHERE WHAT IT READS IS OF BULK AT MOST 1048576: true; the input reads as it did. -/
def badgeNamesUptoRow : OpenClaim := { program := "ytaahkamnpobofaa", sum := "285e7a97ed3297a16350d572c6172212362d7761ac25e99a28b415cb133ea257", func := "bastion/bastionlaw26.BadgeNames", spec := "badgeNames", unfollowed := true, recurses := true, apart := false, narrowed := true }
def BadgeNamesUptoSaid : Prop := badgeNamesUptoRow.holds Try.pinned (OpenSpec.upto badgeNamesSpec)

/-- 'bastionlaw26.BadgePlays', WHERE WHAT IT READS IS OF BULK AT MOST 1048576: true; the input reads as it did. -/
def badgePlaysUptoRow : OpenClaim := { program := "ytaahkamnpobofaa", sum := "285e7a97ed3297a16350d572c6172212362d7761ac25e99a28b415cb133ea257", func := "bastion/bastionlaw26.BadgePlays", spec := "badgePlays", unfollowed := true, recurses := true, apart := false, narrowed := true }
def BadgePlaysUptoSaid : Prop := badgePlaysUptoRow.holds Try.pinned (OpenSpec.upto badgePlaysSpec)

/-- 'bastionlaw26.BadgeOne', WHERE WHAT IT READS IS OF BULK AT MOST 1048576: true; the input reads as it did. -/
def badgeOneUptoRow : OpenClaim := { program := "ytaahkamnpobofaa", sum := "285e7a97ed3297a16350d572c6172212362d7761ac25e99a28b415cb133ea257", func := "bastion/bastionlaw26.BadgeOne", spec := "badgeOne", unfollowed := true, recurses := true, apart := false, narrowed := true }
def BadgeOneUptoSaid : Prop := badgeOneUptoRow.holds Try.pinned (OpenSpec.upto badgeOneSpec)

end Rows
end Go.Proofs.Ytaahkamnpobofaa
