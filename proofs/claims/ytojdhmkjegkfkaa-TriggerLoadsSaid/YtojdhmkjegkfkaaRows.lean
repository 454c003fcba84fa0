/-
  No cell of these rows narrows 'for every input' (looked for: loops, veiled, ifaces, maps, wideKeys, modest, calm, conditions, laid).
  DERIVED. THE GIVEN ROWS OF THIS SEAT. 11 by the template 'for every input the law returns true; each argument reads behind the call as it read before'; 0 by the template 'total and deterministic' (their statements: YtojdhmkjegkfkaaTotals.lean).
  GIVEN WITH THE SEED: the statements are not yours to turn. If you find one false, say at which input.
  Laid BY PROGRAM, IN A SANDBOX (cutbox-rows.mjs): the forced cells as the released guide's own fill.sh prints them over the translation c0910afec9cb7d14… (all of the seat's roots in one cut). By AI agents, Wed Nov 11 2026. No macro, syntax, notation, axiom, sorry.
-/
import Derived.Test.YtojdhmkjegkfkaaChecked
import GoSem.Claim
import GoSem.ClaimJoined
import GoSem.ClaimMapViews
import Derived.JoinedTies
import Derived.KernelRfl
namespace Go.Proofs.Ytojdhmkjegkfkaa
/- THE CELL 'sum', in the pinned program and in every row, IS THE sha256 OF THE DUMP (.gsa) THAT YtojdhmkjegkfkaaProg.lean LOADS. Nothing in Lean hashes anything: it is a label: what it is worth is what the hold of that sum in a sandbox is worth. -/
noncomputable def Try.pinned : Pinned := { name := "ytojdhmkjegkfkaa", sum := "c0910afec9cb7d149a9cff96894621608d534f2eded5857a892edca1b74b606b", checked := Try.checked }
namespace Rows
def none {H : Type} : Left H := { results := [], args := [] }

/-- 'bastionlaw29.TriggerFires': WHATEVER THE INPUT: true; the input reads as it did. -/
def triggerFiresSpec : ChangeSpec := { name := "triggerFires", fn := fun _ => fun
  | [d1, d2, d3] => { results := [.lit (.bool true)], args := [d1, d2, d3] }
  | _ => none }
def triggerFiresRow : OpenClaim := { program := "ytojdhmkjegkfkaa", sum := "c0910afec9cb7d149a9cff96894621608d534f2eded5857a892edca1b74b606b", func := "bastion/bastionlaw29.TriggerFires", spec := "triggerFires", unfollowed := true, recurses := true, apart := false }
def TriggerFiresSaid : Prop := triggerFiresRow.holds Try.pinned (OpenSpec.ofChange triggerFiresSpec)

/-- ITS FALSE NEIGHBOUR: 'it returns false'. Refute it at one input. -/
def triggerFiresWrong : ChangeSpec := { name := "triggerFires", fn := fun _ => fun
  | [d1, d2, d3] => { results := [.lit (.bool false)], args := [d1, d2, d3] }
  | _ => none }
def TriggerFiresWrongFalsely : Prop := triggerFiresRow.holds Try.pinned (OpenSpec.ofChange triggerFiresWrong)

/-- 'bastionlaw10.GlobMatches': WHATEVER THE INPUT: true; the input reads as it did. -/
def globMatchesSpec : ChangeSpec := { name := "globMatches", fn := fun _ => fun
  | [d1, d2] => { results := [.lit (.bool true)], args := [d1, d2] }
  | _ => none }
def globMatchesRow : OpenClaim := { program := "ytojdhmkjegkfkaa", sum := "c0910afec9cb7d149a9cff96894621608d534f2eded5857a892edca1b74b606b", func := "bastion/bastionlaw10.GlobMatches", spec := "globMatches", unfollowed := true, recurses := true, apart := false }
def GlobMatchesSaid : Prop := globMatchesRow.holds Try.pinned (OpenSpec.ofChange globMatchesSpec)

/-- ITS FALSE NEIGHBOUR: 'it returns false'. Refute it at one input. -/
def globMatchesWrong : ChangeSpec := { name := "globMatches", fn := fun _ => fun
  | [d1, d2] => { results := [.lit (.bool false)], args := [d1, d2] }
  | _ => none }
def GlobMatchesWrongFalsely : Prop := globMatchesRow.holds Try.pinned (OpenSpec.ofChange globMatchesWrong)

/-- 'bastionlaw10.GlobPicks': WHATEVER THE INPUT: true; the input reads as it did. -/
def globPicksSpec : ChangeSpec := { name := "globPicks", fn := fun _ => fun
  | [d1, d2] => { results := [.lit (.bool true)], args := [d1, d2] }
  | _ => none }
def globPicksRow : OpenClaim := { program := "ytojdhmkjegkfkaa", sum := "c0910afec9cb7d149a9cff96894621608d534f2eded5857a892edca1b74b606b", func := "bastion/bastionlaw10.GlobPicks", spec := "globPicks", unfollowed := true, recurses := true, apart := false }
def GlobPicksSaid : Prop := globPicksRow.holds Try.pinned (OpenSpec.ofChange globPicksSpec)

/-- ITS FALSE NEIGHBOUR: 'it returns false'. Refute it at one input. -/
def globPicksWrong : ChangeSpec := { name := "globPicks", fn := fun _ => fun
  | [d1, d2] => { results := [.lit (.bool false)], args := [d1, d2] }
  | _ => none }
def GlobPicksWrongFalsely : Prop := globPicksRow.holds Try.pinned (OpenSpec.ofChange globPicksWrong)

/-- 'bastionlaw10.GlobNames': WHATEVER THE INPUT: true; the input reads as it did. -/
def globNamesSpec : ChangeSpec := { name := "globNames", fn := fun _ => fun
  | [] => { results := [.lit (.bool true)], args := [] }
  | _ => none }
def globNamesRow : OpenClaim := { program := "ytojdhmkjegkfkaa", sum := "c0910afec9cb7d149a9cff96894621608d534f2eded5857a892edca1b74b606b", func := "bastion/bastionlaw10.GlobNames", spec := "globNames", unfollowed := true, recurses := true, apart := false }
def GlobNamesSaid : Prop := globNamesRow.holds Try.pinned (OpenSpec.ofChange globNamesSpec)

/-- ITS FALSE NEIGHBOUR: 'it returns false'. Refute it at one input. -/
def globNamesWrong : ChangeSpec := { name := "globNames", fn := fun _ => fun
  | [] => { results := [.lit (.bool false)], args := [] }
  | _ => none }
def GlobNamesWrongFalsely : Prop := globNamesRow.holds Try.pinned (OpenSpec.ofChange globNamesWrong)

/-- 'bastionlaw10.GlobSelf': WHATEVER THE INPUT: true; the input reads as it did. -/
def globSelfSpec : ChangeSpec := { name := "globSelf", fn := fun _ => fun
  | [d1, d2] => { results := [.lit (.bool true)], args := [d1, d2] }
  | _ => none }
def globSelfRow : OpenClaim := { program := "ytojdhmkjegkfkaa", sum := "c0910afec9cb7d149a9cff96894621608d534f2eded5857a892edca1b74b606b", func := "bastion/bastionlaw10.GlobSelf", spec := "globSelf", unfollowed := true, recurses := true, apart := false }
def GlobSelfSaid : Prop := globSelfRow.holds Try.pinned (OpenSpec.ofChange globSelfSpec)

/-- ITS FALSE NEIGHBOUR: 'it returns false'. Refute it at one input. -/
def globSelfWrong : ChangeSpec := { name := "globSelf", fn := fun _ => fun
  | [d1, d2] => { results := [.lit (.bool false)], args := [d1, d2] }
  | _ => none }
def GlobSelfWrongFalsely : Prop := globSelfRow.holds Try.pinned (OpenSpec.ofChange globSelfWrong)

/-- 'bastionlaw10.GlobTogether': WHATEVER THE INPUT: true; the input reads as it did. -/
def globTogetherSpec : ChangeSpec := { name := "globTogether", fn := fun _ => fun
  | [d1, d2, d3] => { results := [.lit (.bool true)], args := [d1, d2, d3] }
  | _ => none }
def globTogetherRow : OpenClaim := { program := "ytojdhmkjegkfkaa", sum := "c0910afec9cb7d149a9cff96894621608d534f2eded5857a892edca1b74b606b", func := "bastion/bastionlaw10.GlobTogether", spec := "globTogether", unfollowed := true, recurses := true, apart := false }
def GlobTogetherSaid : Prop := globTogetherRow.holds Try.pinned (OpenSpec.ofChange globTogetherSpec)

/-- ITS FALSE NEIGHBOUR: 'it returns false'. Refute it at one input. -/
def globTogetherWrong : ChangeSpec := { name := "globTogether", fn := fun _ => fun
  | [d1, d2, d3] => { results := [.lit (.bool false)], args := [d1, d2, d3] }
  | _ => none }
def GlobTogetherWrongFalsely : Prop := globTogetherRow.holds Try.pinned (OpenSpec.ofChange globTogetherWrong)

/-- 'bastionlaw29.TriggerLast': WHATEVER THE INPUT: true; the input reads as it did. -/
def triggerLastSpec : ChangeSpec := { name := "triggerLast", fn := fun _ => fun
  | [d] => { results := [.lit (.bool true)], args := [d] }
  | _ => none }
def triggerLastRow : OpenClaim := { program := "ytojdhmkjegkfkaa", sum := "c0910afec9cb7d149a9cff96894621608d534f2eded5857a892edca1b74b606b", func := "bastion/bastionlaw29.TriggerLast", spec := "triggerLast", unfollowed := true, recurses := true, apart := false }
def TriggerLastSaid : Prop := triggerLastRow.holds Try.pinned (OpenSpec.ofChange triggerLastSpec)

/-- ITS FALSE NEIGHBOUR: 'it returns false'. Refute it at one input. -/
def triggerLastWrong : ChangeSpec := { name := "triggerLast", fn := fun _ => fun
  | [d] => { results := [.lit (.bool false)], args := [d] }
  | _ => none }
def TriggerLastWrongFalsely : Prop := triggerLastRow.holds Try.pinned (OpenSpec.ofChange triggerLastWrong)

/-- 'bastionlaw29.TriggerMore': WHATEVER THE INPUT: true; the input reads as it did. -/
def triggerMoreSpec : ChangeSpec := { name := "triggerMore", fn := fun _ => fun
  | [d1, d2, d3, d4, d5, d6] => { results := [.lit (.bool true)], args := [d1, d2, d3, d4, d5, d6] }
  | _ => none }
def triggerMoreRow : OpenClaim := { program := "ytojdhmkjegkfkaa", sum := "c0910afec9cb7d149a9cff96894621608d534f2eded5857a892edca1b74b606b", func := "bastion/bastionlaw29.TriggerMore", spec := "triggerMore", unfollowed := true, recurses := true, apart := false }
def TriggerMoreSaid : Prop := triggerMoreRow.holds Try.pinned (OpenSpec.ofChange triggerMoreSpec)

/-- ITS FALSE NEIGHBOUR: 'it returns false'. Refute it at one input. -/
def triggerMoreWrong : ChangeSpec := { name := "triggerMore", fn := fun _ => fun
  | [d1, d2, d3, d4, d5, d6] => { results := [.lit (.bool false)], args := [d1, d2, d3, d4, d5, d6] }
  | _ => none }
def TriggerMoreWrongFalsely : Prop := triggerMoreRow.holds Try.pinned (OpenSpec.ofChange triggerMoreWrong)

/-- 'bastionlaw29.TriggerLoads': WHATEVER THE INPUT: true; the input reads as it did. -/
def triggerLoadsSpec : ChangeSpec := { name := "triggerLoads", fn := fun _ => fun
  | [d] => { results := [.lit (.bool true)], args := [d] }
  | _ => none }
def triggerLoadsRow : OpenClaim := { program := "ytojdhmkjegkfkaa", sum := "c0910afec9cb7d149a9cff96894621608d534f2eded5857a892edca1b74b606b", func := "bastion/bastionlaw29.TriggerLoads", spec := "triggerLoads", unfollowed := true, recurses := true, apart := false }
def TriggerLoadsSaid : Prop := triggerLoadsRow.holds Try.pinned (OpenSpec.ofChange triggerLoadsSpec)

/-- ITS FALSE NEIGHBOUR: 'it returns false'. Refute it at one input. -/
def triggerLoadsWrong : ChangeSpec := { name := "triggerLoads", fn := fun _ => fun
  | [d] => { results := [.lit (.bool false)], args := [d] }
  | _ => none }
def TriggerLoadsWrongFalsely : Prop := triggerLoadsRow.holds Try.pinned (OpenSpec.ofChange triggerLoadsWrong)

/-- 'bastionlaw29.TriggerTakes': WHATEVER THE INPUT: true; the input reads as it did. -/
def triggerTakesSpec : ChangeSpec := { name := "triggerTakes", fn := fun _ => fun
  | [d] => { results := [.lit (.bool true)], args := [d] }
  | _ => none }
def triggerTakesRow : OpenClaim := { program := "ytojdhmkjegkfkaa", sum := "c0910afec9cb7d149a9cff96894621608d534f2eded5857a892edca1b74b606b", func := "bastion/bastionlaw29.TriggerTakes", spec := "triggerTakes", unfollowed := true, recurses := true, apart := false }
def TriggerTakesSaid : Prop := triggerTakesRow.holds Try.pinned (OpenSpec.ofChange triggerTakesSpec)

/-- ITS FALSE NEIGHBOUR: 'it returns false'. Refute it at one input. -/
def triggerTakesWrong : ChangeSpec := { name := "triggerTakes", fn := fun _ => fun
  | [d] => { results := [.lit (.bool false)], args := [d] }
  | _ => none }
def TriggerTakesWrongFalsely : Prop := triggerTakesRow.holds Try.pinned (OpenSpec.ofChange triggerTakesWrong)

/-- 'bastionlaw29.TriggerNames': WHATEVER THE INPUT: true; the input reads as it did. -/
def triggerNamesSpec : ChangeSpec := { name := "triggerNames", fn := fun _ => fun
  | [] => { results := [.lit (.bool true)], args := [] }
  | _ => none }
def triggerNamesRow : OpenClaim := { program := "ytojdhmkjegkfkaa", sum := "c0910afec9cb7d149a9cff96894621608d534f2eded5857a892edca1b74b606b", func := "bastion/bastionlaw29.TriggerNames", spec := "triggerNames", unfollowed := true, recurses := true, apart := false }
def TriggerNamesSaid : Prop := triggerNamesRow.holds Try.pinned (OpenSpec.ofChange triggerNamesSpec)

/-- ITS FALSE NEIGHBOUR: 'it returns false'. Refute it at one input. -/
def triggerNamesWrong : ChangeSpec := { name := "triggerNames", fn := fun _ => fun
  | [] => { results := [.lit (.bool false)], args := [] }
  | _ => none }
def TriggerNamesWrongFalsely : Prop := triggerNamesRow.holds Try.pinned (OpenSpec.ofChange triggerNamesWrong)

/- THE SECOND FORM. 'bulk': how many values and letters a reading holds, each counted each time it is reached (what is shared counts as often as it is met; a slice's spare places count too). A statement '..UptoSaid' is the law's where the arguments, and the package variables that the reading takes, are together of bulk at most 1048576: NARROWER than '..Said'. Prove '..Said' where nothing that the law and all that it calls make is longer than what came in: it says more and counts as full. Else prove '..UptoSaid'. A law counts once. -/
mutual
def uptoBulk {H : Type} : DataW H → Nat
  | .lit (.string bytes) => bytes.length + 1
  | .lit _ => 1
  | .nil => 1
  | .ptr d => uptoBulk d + 1
  | .slice elems spare => uptoBulkAll elems + uptoBulkAll spare + 1
  | .agg parts => uptoBulkAll parts + 1
  | .iface _ d => uptoBulk d + 1
  | .map entries => uptoBulkEntries entries + 1
  | .held _ => 1
def uptoBulkAll {H : Type} : List (DataW H) → Nat
  | [] => 0
  | d :: r => uptoBulk d + uptoBulkAll r
def uptoBulkEntries {H : Type} : List (Lit × DataW H) → Nat
  | [] => 0
  | x :: r => uptoBulkEntry x + uptoBulkEntries r
def uptoBulkEntry {H : Type} : Lit × DataW H → Nat
  | (.string bytes, d) => bytes.length + uptoBulk d + 1
  | (_, d) => uptoBulk d + 1
 end
def uptoSmall : (H : Type) → List (DataW H) → Bool := fun _ ds => decide (uptoBulkAll ds ≤ 1048576)
def OpenSpec.upto (s : _root_.Go.ChangeSpec) : _root_.Go.OpenSpec := { _root_.Go.OpenSpec.ofChange s with cond := some uptoSmall }

/-- 'bastionlaw29.TriggerFires', WHERE WHAT IT READS IS OF BULK AT MOST 1048576: true; the input reads as it did. -/
def triggerFiresUptoRow : OpenClaim := { program := "ytojdhmkjegkfkaa", sum := "c0910afec9cb7d149a9cff96894621608d534f2eded5857a892edca1b74b606b", func := "bastion/bastionlaw29.TriggerFires", spec := "triggerFires", unfollowed := true, recurses := true, apart := false, narrowed := true }
def TriggerFiresUptoSaid : Prop := triggerFiresUptoRow.holds Try.pinned (OpenSpec.upto triggerFiresSpec)

/-- 'bastionlaw10.GlobMatches', WHERE WHAT IT READS IS OF BULK AT MOST 1048576: true; the input reads as it did. -/
def globMatchesUptoRow : OpenClaim := { program := "ytojdhmkjegkfkaa", sum := "c0910afec9cb7d149a9cff96894621608d534f2eded5857a892edca1b74b606b", func := "bastion/bastionlaw10.GlobMatches", spec := "globMatches", unfollowed := true, recurses := true, apart := false, narrowed := true }
def GlobMatchesUptoSaid : Prop := globMatchesUptoRow.holds Try.pinned (OpenSpec.upto globMatchesSpec)

/-- 'bastionlaw10.GlobPicks', WHERE WHAT IT READS IS OF BULK AT MOST 1048576: true; the input reads as it did. -/
def globPicksUptoRow : OpenClaim := { program := "ytojdhmkjegkfkaa", sum := "c0910afec9cb7d149a9cff96894621608d534f2eded5857a892edca1b74b606b", func := "bastion/bastionlaw10.GlobPicks", spec := "globPicks", unfollowed := true, recurses := true, apart := false, narrowed := true }
def GlobPicksUptoSaid : Prop := globPicksUptoRow.holds Try.pinned (OpenSpec.upto globPicksSpec)

/-- 'bastionlaw10.GlobNames', WHERE WHAT IT READS IS OF BULK AT MOST 1048576: true; the input reads as it did. -/
def globNamesUptoRow : OpenClaim := { program := "ytojdhmkjegkfkaa", sum := "c0910afec9cb7d149a9cff96894621608d534f2eded5857a892edca1b74b606b", func := "bastion/bastionlaw10.GlobNames", spec := "globNames", unfollowed := true, recurses := true, apart := false, narrowed := true }
def GlobNamesUptoSaid : Prop := globNamesUptoRow.holds Try.pinned (OpenSpec.upto globNamesSpec)

/-- 'bastionlaw10.GlobSelf', WHERE WHAT IT READS IS OF BULK AT MOST 1048576: true; the input reads as it did. -/
def globSelfUptoRow : OpenClaim := { program := "ytojdhmkjegkfkaa", sum := "c0910afec9cb7d149a9cff96894621608d534f2eded5857a892edca1b74b606b", func := "bastion/bastionlaw10.GlobSelf", spec := "globSelf", unfollowed := true, recurses := true, apart := false, narrowed := true }
def GlobSelfUptoSaid : Prop := globSelfUptoRow.holds Try.pinned (OpenSpec.upto globSelfSpec)

/-- 'bastionlaw10.GlobTogether', WHERE WHAT IT READS IS OF BULK AT MOST 1048576: true; the input reads as it did. -/
def globTogetherUptoRow : OpenClaim := { program := "ytojdhmkjegkfkaa", sum := "c0910afec9cb7d149a9cff96894621608d534f2eded5857a892edca1b74b606b", func := "bastion/bastionlaw10.GlobTogether", spec := "globTogether", unfollowed := true, recurses := true, apart := false, narrowed := true }
def GlobTogetherUptoSaid : Prop := globTogetherUptoRow.holds Try.pinned (OpenSpec.upto globTogetherSpec)

/-- 'bastionlaw29.TriggerLast', WHERE WHAT IT READS IS OF BULK AT MOST 1048576: true; the input reads as it did. -/
def triggerLastUptoRow : OpenClaim := { program := "ytojdhmkjegkfkaa", sum := "c0910afec9cb7d149a9cff96894621608d534f2eded5857a892edca1b74b606b", func := "bastion/bastionlaw29.TriggerLast", spec := "triggerLast", unfollowed := true, recurses := true, apart := false, narrowed := true }
def TriggerLastUptoSaid : Prop := triggerLastUptoRow.holds Try.pinned (OpenSpec.upto triggerLastSpec)

/-- 'bastionlaw29.TriggerMore', WHERE WHAT IT READS IS OF BULK AT MOST 1048576: true; the input reads as it did. -/
def triggerMoreUptoRow : OpenClaim := { program := "ytojdhmkjegkfkaa", sum := "c0910afec9cb7d149a9cff96894621608d534f2eded5857a892edca1b74b606b", func := "bastion/bastionlaw29.TriggerMore", spec := "triggerMore", unfollowed := true, recurses := true, apart := false, narrowed := true }
def TriggerMoreUptoSaid : Prop := triggerMoreUptoRow.holds Try.pinned (OpenSpec.upto triggerMoreSpec)

/-- 'bastionlaw29.TriggerLoads', WHERE WHAT IT READS IS OF BULK AT MOST 1048576: true; the input reads as it did. -/
def triggerLoadsUptoRow : OpenClaim := { program := "ytojdhmkjegkfkaa", sum := "c0910afec9cb7d149a9cff96894621608d534f2eded5857a892edca1b74b606b", func := "bastion/bastionlaw29.TriggerLoads", spec := "triggerLoads", unfollowed := true, recurses := true, apart := false, narrowed := true }
def TriggerLoadsUptoSaid : Prop := triggerLoadsUptoRow.holds Try.pinned (OpenSpec.upto triggerLoadsSpec)

/-- 'bastionlaw29.TriggerTakes', WHERE WHAT IT READS IS OF BULK AT MOST 1048576: true; the input reads as it did. -/
def triggerTakesUptoRow : OpenClaim := { program := "ytojdhmkjegkfkaa", sum := "c0910afec9cb7d149a9cff96894621608d534f2eded5857a892edca1b74b606b", func := "bastion/bastionlaw29.TriggerTakes", spec := "triggerTakes", unfollowed := true, recurses := true, apart := false, narrowed := true }
def TriggerTakesUptoSaid : Prop := triggerTakesUptoRow.holds Try.pinned (OpenSpec.upto triggerTakesSpec)

/-- 'bastionlaw29.TriggerNames', WHERE WHAT IT READS IS OF BULK AT MOST 1048576: true; the input reads as it did. -/
def triggerNamesUptoRow : OpenClaim := { program := "ytojdhmkjegkfkaa", sum := "c0910afec9cb7d149a9cff96894621608d534f2eded5857a892edca1b74b606b", func := "bastion/bastionlaw29.TriggerNames", spec := "triggerNames", unfollowed := true, recurses := true, apart := false, narrowed := true }
def TriggerNamesUptoSaid : Prop := triggerNamesUptoRow.holds Try.pinned (OpenSpec.upto triggerNamesSpec)

end Rows
end Go.Proofs.Ytojdhmkjegkfkaa
