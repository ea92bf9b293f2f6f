/-
  No cell of these rows narrows 'for every input' (looked for: loops, veiled, ifaces, maps, wideKeys, modest, calm, conditions, laid).
  DERIVED. THE GIVEN ROWS OF THIS SEAT. 10 by the template 'for every input the law returns true; each argument reads behind the call as it read before'; 0 by the template 'total and deterministic' (their statements: YtnnkchgkebcblaaTotals.lean).
  GIVEN WITH THE SEED: the statements are not yours to turn. If you find one false, say at which input.
  Laid BY PROGRAM, IN A SANDBOX (cutbox-rows.mjs): the forced cells as the released guide's own fill.sh prints them over the translation e143d4fe609d1399… (all of the seat's roots in one cut). By AI agents, Wed Nov 11 2026. No macro, syntax, notation, axiom, sorry.
-/
import Derived.Test.YtnnkchgkebcblaaChecked
import GoSem.Claim
import GoSem.ClaimJoined
import GoSem.ClaimMapViews
import Derived.JoinedTies
import Derived.KernelRfl
namespace Go.Proofs.Ytnnkchgkebcblaa
/- THE CELL 'sum', in the pinned program and in every row, IS THE sha256 OF THE DUMP (.gsa) THAT YtnnkchgkebcblaaProg.lean LOADS. Nothing in Lean hashes anything: it is a label: what it is worth is what the hold of that sum in a sandbox is worth. -/
noncomputable def Try.pinned : Pinned := { name := "ytnnkchgkebcblaa", sum := "e143d4fe609d13991b095f08000260e11e6a393a2428b0a88ed31fab9816cddc", checked := Try.checked }
namespace Rows
def none {H : Type} : Left H := { results := [], args := [] }

/-- 'halyardlaw10.WheelNames': WHATEVER THE INPUT: true; the input reads as it did. -/
def wheelNamesSpec : ChangeSpec := { name := "wheelNames", fn := fun _ => fun
  | [d] => { results := [.lit (.bool true)], args := [d] }
  | _ => none }
def wheelNamesRow : OpenClaim := { program := "ytnnkchgkebcblaa", sum := "e143d4fe609d13991b095f08000260e11e6a393a2428b0a88ed31fab9816cddc", func := "halyard/halyardlaw10.WheelNames", spec := "wheelNames", unfollowed := true, recurses := true, apart := false }
def WheelNamesSaid : Prop := wheelNamesRow.holds Try.pinned (OpenSpec.ofChange wheelNamesSpec)

/-- ITS FALSE NEIGHBOUR: 'it returns false'. Refute it at one input. -/
def wheelNamesWrong : ChangeSpec := { name := "wheelNames", fn := fun _ => fun
  | [d] => { results := [.lit (.bool false)], args := [d] }
  | _ => none }
def WheelNamesWrongFalsely : Prop := wheelNamesRow.holds Try.pinned (OpenSpec.ofChange wheelNamesWrong)

/-- 'halyardlaw10.WheelSets': WHATEVER THE INPUT: true; the input reads as it did. -/
def wheelSetsSpec : ChangeSpec := { name := "wheelSets", fn := fun _ => fun
  | [d1, d2, d3] => { results := [.lit (.bool true)], args := [d1, d2, d3] }
  | _ => none }
def wheelSetsRow : OpenClaim := { program := "ytnnkchgkebcblaa", sum := "e143d4fe609d13991b095f08000260e11e6a393a2428b0a88ed31fab9816cddc", func := "halyard/halyardlaw10.WheelSets", spec := "wheelSets", unfollowed := true, recurses := true, apart := false }
def WheelSetsSaid : Prop := wheelSetsRow.holds Try.pinned (OpenSpec.ofChange wheelSetsSpec)

/-- ITS FALSE NEIGHBOUR: 'it returns false'. Refute it at one input. -/
def wheelSetsWrong : ChangeSpec := { name := "wheelSets", fn := fun _ => fun
  | [d1, d2, d3] => { results := [.lit (.bool false)], args := [d1, d2, d3] }
  | _ => none }
def WheelSetsWrongFalsely : Prop := wheelSetsRow.holds Try.pinned (OpenSpec.ofChange wheelSetsWrong)

/-- 'halyardlaw10.WheelStops': WHATEVER THE INPUT: true; the input reads as it did. -/
def wheelStopsSpec : ChangeSpec := { name := "wheelStops", fn := fun _ => fun
  | [d1, d2, d3] => { results := [.lit (.bool true)], args := [d1, d2, d3] }
  | _ => none }
def wheelStopsRow : OpenClaim := { program := "ytnnkchgkebcblaa", sum := "e143d4fe609d13991b095f08000260e11e6a393a2428b0a88ed31fab9816cddc", func := "halyard/halyardlaw10.WheelStops", spec := "wheelStops", unfollowed := true, recurses := true, apart := false }
def WheelStopsSaid : Prop := wheelStopsRow.holds Try.pinned (OpenSpec.ofChange wheelStopsSpec)

/-- ITS FALSE NEIGHBOUR: 'it returns false'. Refute it at one input. -/
def wheelStopsWrong : ChangeSpec := { name := "wheelStops", fn := fun _ => fun
  | [d1, d2, d3] => { results := [.lit (.bool false)], args := [d1, d2, d3] }
  | _ => none }
def WheelStopsWrongFalsely : Prop := wheelStopsRow.holds Try.pinned (OpenSpec.ofChange wheelStopsWrong)

/-- 'halyardlaw10.WheelRings': WHATEVER THE INPUT: true; the input reads as it did. -/
def wheelRingsSpec : ChangeSpec := { name := "wheelRings", fn := fun _ => fun
  | [d1, d2, d3] => { results := [.lit (.bool true)], args := [d1, d2, d3] }
  | _ => none }
def wheelRingsRow : OpenClaim := { program := "ytnnkchgkebcblaa", sum := "e143d4fe609d13991b095f08000260e11e6a393a2428b0a88ed31fab9816cddc", func := "halyard/halyardlaw10.WheelRings", spec := "wheelRings", unfollowed := true, recurses := true, apart := false }
def WheelRingsSaid : Prop := wheelRingsRow.holds Try.pinned (OpenSpec.ofChange wheelRingsSpec)

/-- ITS FALSE NEIGHBOUR: 'it returns false'. Refute it at one input. -/
def wheelRingsWrong : ChangeSpec := { name := "wheelRings", fn := fun _ => fun
  | [d1, d2, d3] => { results := [.lit (.bool false)], args := [d1, d2, d3] }
  | _ => none }
def WheelRingsWrongFalsely : Prop := wheelRingsRow.holds Try.pinned (OpenSpec.ofChange wheelRingsWrong)

/-- 'halyardlaw10.WheelAll': WHATEVER THE INPUT: true; the input reads as it did. -/
def wheelAllSpec : ChangeSpec := { name := "wheelAll", fn := fun _ => fun
  | [d1, d2, d3] => { results := [.lit (.bool true)], args := [d1, d2, d3] }
  | _ => none }
def wheelAllRow : OpenClaim := { program := "ytnnkchgkebcblaa", sum := "e143d4fe609d13991b095f08000260e11e6a393a2428b0a88ed31fab9816cddc", func := "halyard/halyardlaw10.WheelAll", spec := "wheelAll", unfollowed := true, recurses := true, apart := false }
def WheelAllSaid : Prop := wheelAllRow.holds Try.pinned (OpenSpec.ofChange wheelAllSpec)

/-- ITS FALSE NEIGHBOUR: 'it returns false'. Refute it at one input. -/
def wheelAllWrong : ChangeSpec := { name := "wheelAll", fn := fun _ => fun
  | [d1, d2, d3] => { results := [.lit (.bool false)], args := [d1, d2, d3] }
  | _ => none }
def WheelAllWrongFalsely : Prop := wheelAllRow.holds Try.pinned (OpenSpec.ofChange wheelAllWrong)

/-- 'halyardlaw10.WheelOwn': WHATEVER THE INPUT: true; the input reads as it did. -/
def wheelOwnSpec : ChangeSpec := { name := "wheelOwn", fn := fun _ => fun
  | [d1, d2, d3] => { results := [.lit (.bool true)], args := [d1, d2, d3] }
  | _ => none }
def wheelOwnRow : OpenClaim := { program := "ytnnkchgkebcblaa", sum := "e143d4fe609d13991b095f08000260e11e6a393a2428b0a88ed31fab9816cddc", func := "halyard/halyardlaw10.WheelOwn", spec := "wheelOwn", unfollowed := true, recurses := true, apart := false }
def WheelOwnSaid : Prop := wheelOwnRow.holds Try.pinned (OpenSpec.ofChange wheelOwnSpec)

/-- ITS FALSE NEIGHBOUR: 'it returns false'. Refute it at one input. -/
def wheelOwnWrong : ChangeSpec := { name := "wheelOwn", fn := fun _ => fun
  | [d1, d2, d3] => { results := [.lit (.bool false)], args := [d1, d2, d3] }
  | _ => none }
def WheelOwnWrongFalsely : Prop := wheelOwnRow.holds Try.pinned (OpenSpec.ofChange wheelOwnWrong)

/-- 'halyardlaw10.WheelSteps': WHATEVER THE INPUT: true; the input reads as it did. -/
def wheelStepsSpec : ChangeSpec := { name := "wheelSteps", fn := fun _ => fun
  | [d1, d2, d3] => { results := [.lit (.bool true)], args := [d1, d2, d3] }
  | _ => none }
def wheelStepsRow : OpenClaim := { program := "ytnnkchgkebcblaa", sum := "e143d4fe609d13991b095f08000260e11e6a393a2428b0a88ed31fab9816cddc", func := "halyard/halyardlaw10.WheelSteps", spec := "wheelSteps", unfollowed := true, recurses := true, apart := false }
def WheelStepsSaid : Prop := wheelStepsRow.holds Try.pinned (OpenSpec.ofChange wheelStepsSpec)

/-- ITS FALSE NEIGHBOUR: 'it returns false'. Refute it at one input. -/
def wheelStepsWrong : ChangeSpec := { name := "wheelSteps", fn := fun _ => fun
  | [d1, d2, d3] => { results := [.lit (.bool false)], args := [d1, d2, d3] }
  | _ => none }
def WheelStepsWrongFalsely : Prop := wheelStepsRow.holds Try.pinned (OpenSpec.ofChange wheelStepsWrong)

/-- 'halyardlaw10.WheelOnce': WHATEVER THE INPUT: true; the input reads as it did. -/
def wheelOnceSpec : ChangeSpec := { name := "wheelOnce", fn := fun _ => fun
  | [d1, d2] => { results := [.lit (.bool true)], args := [d1, d2] }
  | _ => none }
def wheelOnceRow : OpenClaim := { program := "ytnnkchgkebcblaa", sum := "e143d4fe609d13991b095f08000260e11e6a393a2428b0a88ed31fab9816cddc", func := "halyard/halyardlaw10.WheelOnce", spec := "wheelOnce", unfollowed := true, recurses := true, apart := false }
def WheelOnceSaid : Prop := wheelOnceRow.holds Try.pinned (OpenSpec.ofChange wheelOnceSpec)

/-- ITS FALSE NEIGHBOUR: 'it returns false'. Refute it at one input. -/
def wheelOnceWrong : ChangeSpec := { name := "wheelOnce", fn := fun _ => fun
  | [d1, d2] => { results := [.lit (.bool false)], args := [d1, d2] }
  | _ => none }
def WheelOnceWrongFalsely : Prop := wheelOnceRow.holds Try.pinned (OpenSpec.ofChange wheelOnceWrong)

/-- 'halyardlaw10.WheelLong': WHATEVER THE INPUT: true; the input reads as it did. -/
def wheelLongSpec : ChangeSpec := { name := "wheelLong", fn := fun _ => fun
  | [d1, d2, d3] => { results := [.lit (.bool true)], args := [d1, d2, d3] }
  | _ => none }
def wheelLongRow : OpenClaim := { program := "ytnnkchgkebcblaa", sum := "e143d4fe609d13991b095f08000260e11e6a393a2428b0a88ed31fab9816cddc", func := "halyard/halyardlaw10.WheelLong", spec := "wheelLong", unfollowed := true, recurses := true, apart := false }
def WheelLongSaid : Prop := wheelLongRow.holds Try.pinned (OpenSpec.ofChange wheelLongSpec)

/-- ITS FALSE NEIGHBOUR: 'it returns false'. Refute it at one input. -/
def wheelLongWrong : ChangeSpec := { name := "wheelLong", fn := fun _ => fun
  | [d1, d2, d3] => { results := [.lit (.bool false)], args := [d1, d2, d3] }
  | _ => none }
def WheelLongWrongFalsely : Prop := wheelLongRow.holds Try.pinned (OpenSpec.ofChange wheelLongWrong)

/-- 'halyardlaw10.WheelNil': WHATEVER THE INPUT: true; the input reads as it did. -/
def wheelNilSpec : ChangeSpec := { name := "wheelNil", fn := fun _ => fun
  | [d1, d2] => { results := [.lit (.bool true)], args := [d1, d2] }
  | _ => none }
def wheelNilRow : OpenClaim := { program := "ytnnkchgkebcblaa", sum := "e143d4fe609d13991b095f08000260e11e6a393a2428b0a88ed31fab9816cddc", func := "halyard/halyardlaw10.WheelNil", spec := "wheelNil", unfollowed := true, recurses := true, apart := false }
def WheelNilSaid : Prop := wheelNilRow.holds Try.pinned (OpenSpec.ofChange wheelNilSpec)

/-- ITS FALSE NEIGHBOUR: 'it returns false'. Refute it at one input. -/
def wheelNilWrong : ChangeSpec := { name := "wheelNil", fn := fun _ => fun
  | [d1, d2] => { results := [.lit (.bool false)], args := [d1, d2] }
  | _ => none }
def WheelNilWrongFalsely : Prop := wheelNilRow.holds Try.pinned (OpenSpec.ofChange wheelNilWrong)

/- THE SECOND FORM. 'bulk': how many values and letters a reading holds, each counted each time it is reached (what is shared counts as often as it is met; a slice's spare places count too). A statement '..UptoSaid' is the law's where the arguments, and the package variables that the reading takes, are together of bulk at most 1048576: NARROWER than '..Said'. Prove '..Said' where nothing that the law and all that it calls make is longer than what came in: it says more and counts as full. Else prove '..UptoSaid'. A law counts once. -/
mutual
def uptoBulk {H : Type} : DataW H → Nat
  | .lit (.string bytes) => bytes.length + 1
  | .lit _ => 1
  | .nil => 1
  | .ptr d => uptoBulk d + 1
  | .slice elems spare => uptoBulkAll elems + uptoBulkAll spare + 1
  | .agg parts => uptoBulkAll parts + 1
  | .iface _ d => uptoBulk d + 1
  | .map entries => uptoBulkEntries entries + 1
  | .held _ => 1
def uptoBulkAll {H : Type} : List (DataW H) → Nat
  | [] => 0
  | d :: r => uptoBulk d + uptoBulkAll r
def uptoBulkEntries {H : Type} : List (Lit × DataW H) → Nat
  | [] => 0
  | x :: r => uptoBulkEntry x + uptoBulkEntries r
def uptoBulkEntry {H : Type} : Lit × DataW H → Nat
  | (.string bytes, d) => bytes.length + uptoBulk d + 1
  | (_, d) => uptoBulk d + 1
 end
def uptoSmall : (H : Type) → List (DataW H) → Bool := fun _ ds => decide (uptoBulkAll ds ≤ 1048576)
def OpenSpec.upto (s : _root_.Go.ChangeSpec) : _root_.Go.OpenSpec := { _root_.Go.OpenSpec.ofChange s with cond := some uptoSmall }

/-- 'halyardlaw10.WheelNames', WHERE WHAT IT READS IS OF BULK AT MOST 1048576: true; the input reads as it did. -/
def wheelNamesUptoRow : OpenClaim := { program := "ytnnkchgkebcblaa", sum := "e143d4fe609d13991b095f08000260e11e6a393a2428b0a88ed31fab9816cddc", func := "halyard/halyardlaw10.WheelNames", spec := "wheelNames", unfollowed := true, recurses := true, apart := false, narrowed := true }
def WheelNamesUptoSaid : Prop := wheelNamesUptoRow.holds Try.pinned (OpenSpec.upto wheelNamesSpec)

/-- 'halyardlaw10.WheelSets', WHERE WHAT IT READS IS OF BULK AT MOST 1048576: true; the input reads as it did. -/
def wheelSetsUptoRow : OpenClaim := { program := "ytnnkchgkebcblaa", sum := "e143d4fe609d13991b095f08000260e11e6a393a2428b0a88ed31fab9816cddc", func := "halyard/halyardlaw10.WheelSets", spec := "wheelSets", unfollowed := true, recurses := true, apart := false, narrowed := true }
def WheelSetsUptoSaid : Prop := wheelSetsUptoRow.holds Try.pinned (OpenSpec.upto wheelSetsSpec)

/-- 'halyardlaw10.WheelStops', WHERE WHAT IT READS IS OF BULK AT MOST 1048576: true; the input reads as it did. -/
def wheelStopsUptoRow : OpenClaim := { program := "ytnnkchgkebcblaa", sum := "e143d4fe609d13991b095f08000260e11e6a393a2428b0a88ed31fab9816cddc", func := "halyard/halyardlaw10.WheelStops", spec := "wheelStops", unfollowed := true, recurses := true, apart := false, narrowed := true }
def WheelStopsUptoSaid : Prop := wheelStopsUptoRow.holds Try.pinned (OpenSpec.upto wheelStopsSpec)

/-- 'halyardlaw10.WheelRings', WHERE WHAT IT READS IS OF BULK AT MOST 1048576: true; the input reads as it did. -/
def wheelRingsUptoRow : OpenClaim := { program := "ytnnkchgkebcblaa", sum := "e143d4fe609d13991b095f08000260e11e6a393a2428b0a88ed31fab9816cddc", func := "halyard/halyardlaw10.WheelRings", spec := "wheelRings", unfollowed := true, recurses := true, apart := false, narrowed := true }
def WheelRingsUptoSaid : Prop := wheelRingsUptoRow.holds Try.pinned (OpenSpec.upto wheelRingsSpec)

/-- 'halyardlaw10.WheelAll', WHERE WHAT IT READS IS OF BULK AT MOST 1048576: true; the input reads as it did. -/
def wheelAllUptoRow : OpenClaim := { program := "ytnnkchgkebcblaa", sum := "e143d4fe609d13991b095f08000260e11e6a393a2428b0a88ed31fab9816cddc", func := "halyard/halyardlaw10.WheelAll", spec := "wheelAll", unfollowed := true, recurses := true, apart := false, narrowed := true }
def WheelAllUptoSaid : Prop := wheelAllUptoRow.holds Try.pinned (OpenSpec.upto wheelAllSpec)

/-- 'halyardlaw10.WheelOwn', WHERE WHAT IT READS IS OF BULK AT MOST 1048576: true; the input reads as it did. -/
def wheelOwnUptoRow : OpenClaim := { program := "ytnnkchgkebcblaa", sum := "e143d4fe609d13991b095f08000260e11e6a393a2428b0a88ed31fab9816cddc", func := "halyard/halyardlaw10.WheelOwn", spec := "wheelOwn", unfollowed := true, recurses := true, apart := false, narrowed := true }
def WheelOwnUptoSaid : Prop := wheelOwnUptoRow.holds Try.pinned (OpenSpec.upto wheelOwnSpec)

/-- 'halyardlaw10.WheelSteps', WHERE WHAT IT READS IS OF BULK AT MOST 1048576: true; the input reads as it did. -/
def wheelStepsUptoRow : OpenClaim := { program := "ytnnkchgkebcblaa", sum := "e143d4fe609d13991b095f08000260e11e6a393a2428b0a88ed31fab9816cddc", func := "halyard/halyardlaw10.WheelSteps", spec := "wheelSteps", unfollowed := true, recurses := true, apart := false, narrowed := true }
def WheelStepsUptoSaid : Prop := wheelStepsUptoRow.holds Try.pinned (OpenSpec.upto wheelStepsSpec)

/-- 'halyardlaw10.WheelOnce', WHERE WHAT IT READS IS OF BULK AT MOST 1048576: true; the input reads as it did. -/
def wheelOnceUptoRow : OpenClaim := { program := "ytnnkchgkebcblaa", sum := "e143d4fe609d13991b095f08000260e11e6a393a2428b0a88ed31fab9816cddc", func := "halyard/halyardlaw10.WheelOnce", spec := "wheelOnce", unfollowed := true, recurses := true, apart := false, narrowed := true }
def WheelOnceUptoSaid : Prop := wheelOnceUptoRow.holds Try.pinned (OpenSpec.upto wheelOnceSpec)

/-- 'halyardlaw10.WheelLong', WHERE WHAT IT READS IS OF BULK AT MOST 1048576: true; the input reads as it did. -/
def wheelLongUptoRow : OpenClaim := { program := "ytnnkchgkebcblaa", sum := "e143d4fe609d13991b095f08000260e11e6a393a2428b0a88ed31fab9816cddc", func := "halyard/halyardlaw10.WheelLong", spec := "wheelLong", unfollowed := true, recurses := true, apart := false, narrowed := true }
def WheelLongUptoSaid : Prop := wheelLongUptoRow.holds Try.pinned (OpenSpec.upto wheelLongSpec)

/-- 'halyardlaw10.WheelNil', WHERE WHAT IT READS IS OF BULK AT MOST 1048576: true; the input reads as it did. -/
def wheelNilUptoRow : OpenClaim := { program := "ytnnkchgkebcblaa", sum := "e143d4fe609d13991b095f08000260e11e6a393a2428b0a88ed31fab9816cddc", func := "halyard/halyardlaw10.WheelNil", spec := "wheelNil", unfollowed := true, recurses := true, apart := false, narrowed := true }
def WheelNilUptoSaid : Prop := wheelNilUptoRow.holds Try.pinned (OpenSpec.upto wheelNilSpec)

end Rows
end Go.Proofs.Ytnnkchgkebcblaa
