/-
  No cell of these rows narrows 'for every input' (looked for: loops, veiled, ifaces, maps, wideKeys, modest, calm, conditions, laid).
  DERIVED. THE GIVEN ROWS OF THIS SEAT. 4 by the template 'for every input the law returns true; each argument reads behind the call as it read before'; 0 by the template 'total and deterministic' (their statements: YthlpoepeofgafaaTotals.lean).
  GIVEN WITH THE SEED: the statements are not yours to turn. If you find one false, say at which input.
  Laid BY PROGRAM, IN A SANDBOX (cutbox-rows.mjs): the forced cells as the released guide's own fill.sh prints them over the translation 06002815862b3f52… (all of the seat's roots in one cut). By AI agents, Wed Nov 11 2026. No macro, syntax, notation, axiom, sorry.
-/
import Derived.Test.YthlpoepeofgafaaChecked
import GoSem.Claim
import GoSem.ClaimJoined
import GoSem.ClaimMapViews
import Derived.JoinedTies
import Derived.KernelRfl
namespace Go.Proofs.Ythlpoepeofgafaa
/- THE CELL 'sum', in the pinned program and in every row, IS THE sha256 OF THE DUMP (.gsa) THAT YthlpoepeofgafaaProg.lean LOADS. Nothing in Lean hashes anything: it is a label: what it is worth is what the hold of that sum in a sandbox is worth. -/
noncomputable def Try.pinned : Pinned := { name := "ythlpoepeofgafaa", sum := "06002815862b3f52c96f7edb620a37926f8fb7f0dcb418a3c251e873fc31076b", checked := Try.checked }
namespace Rows
def none {H : Type} : Left H := { results := [], args := [] }

/-- 'halyardlaw15.FreightOwn': WHATEVER THE INPUT: true; the input reads as it did. -/
def freightOwnSpec : ChangeSpec := { name := "freightOwn", fn := fun _ => fun
  | [d1, d2] => { results := [.lit (.bool true)], args := [d1, d2] }
  | _ => none }
def freightOwnRow : OpenClaim := { program := "ythlpoepeofgafaa", sum := "06002815862b3f52c96f7edb620a37926f8fb7f0dcb418a3c251e873fc31076b", func := "halyard/halyardlaw15.FreightOwn", spec := "freightOwn", unfollowed := true, recurses := true, apart := false }
def FreightOwnSaid : Prop := freightOwnRow.holds Try.pinned (OpenSpec.ofChange freightOwnSpec)

/-- ITS FALSE NEIGHBOUR: 'it returns false'. Refute it at one input. -/
def freightOwnWrong : ChangeSpec := { name := "freightOwn", fn := fun _ => fun
  | [d1, d2] => { results := [.lit (.bool false)], args := [d1, d2] }
  | _ => none }
def FreightOwnWrongFalsely : Prop := freightOwnRow.holds Try.pinned (OpenSpec.ofChange freightOwnWrong)

/-- 'halyardlaw15.FreightNone': WHATEVER THE INPUT: true; the input reads as it did. -/
def freightNoneSpec : ChangeSpec := { name := "freightNone", fn := fun _ => fun
  | [] => { results := [.lit (.bool true)], args := [] }
  | _ => none }
def freightNoneRow : OpenClaim := { program := "ythlpoepeofgafaa", sum := "06002815862b3f52c96f7edb620a37926f8fb7f0dcb418a3c251e873fc31076b", func := "halyard/halyardlaw15.FreightNone", spec := "freightNone", unfollowed := true, recurses := true, apart := false }
def FreightNoneSaid : Prop := freightNoneRow.holds Try.pinned (OpenSpec.ofChange freightNoneSpec)

/-- ITS FALSE NEIGHBOUR: 'it returns false'. Refute it at one input. -/
def freightNoneWrong : ChangeSpec := { name := "freightNone", fn := fun _ => fun
  | [] => { results := [.lit (.bool false)], args := [] }
  | _ => none }
def FreightNoneWrongFalsely : Prop := freightNoneRow.holds Try.pinned (OpenSpec.ofChange freightNoneWrong)

/-- 'halyardlaw15.FreightCalls': WHATEVER THE INPUT: true; the input reads as it did. -/
def freightCallsSpec : ChangeSpec := { name := "freightCalls", fn := fun _ => fun
  | [d1, d2, d3, d4] => { results := [.lit (.bool true)], args := [d1, d2, d3, d4] }
  | _ => none }
def freightCallsRow : OpenClaim := { program := "ythlpoepeofgafaa", sum := "06002815862b3f52c96f7edb620a37926f8fb7f0dcb418a3c251e873fc31076b", func := "halyard/halyardlaw15.FreightCalls", spec := "freightCalls", unfollowed := true, recurses := true, apart := false }
def FreightCallsSaid : Prop := freightCallsRow.holds Try.pinned (OpenSpec.ofChange freightCallsSpec)

/-- ITS FALSE NEIGHBOUR: 'it returns false'. Refute it at one input. -/
def freightCallsWrong : ChangeSpec := { name := "freightCalls", fn := fun _ => fun
  | [d1, d2, d3, d4] => { results := [.lit (.bool false)], args := [d1, d2, d3, d4] }
  | _ => none }
def FreightCallsWrongFalsely : Prop := freightCallsRow.holds Try.pinned (OpenSpec.ofChange freightCallsWrong)

/-- 'halyardlaw15.FreightComes': WHATEVER THE INPUT: true; the input reads as it did. -/
def freightComesSpec : ChangeSpec := { name := "freightComes", fn := fun _ => fun
  | [d1, d2, d3, d4, d5] => { results := [.lit (.bool true)], args := [d1, d2, d3, d4, d5] }
  | _ => none }
def freightComesRow : OpenClaim := { program := "ythlpoepeofgafaa", sum := "06002815862b3f52c96f7edb620a37926f8fb7f0dcb418a3c251e873fc31076b", func := "halyard/halyardlaw15.FreightComes", spec := "freightComes", unfollowed := true, recurses := true, apart := false }
def FreightComesSaid : Prop := freightComesRow.holds Try.pinned (OpenSpec.ofChange freightComesSpec)

/-- ITS FALSE NEIGHBOUR: 'it returns false'. Refute it at one input. -/
def freightComesWrong : ChangeSpec := { name := "freightComes", fn := fun _ => fun
  | [d1, d2, d3, d4, d5] => { results := [.lit (.bool false)], args := [d1, d2, d3, d4, d5] }
  | _ => none }
def FreightComesWrongFalsely : Prop := freightComesRow.holds Try.pinned (OpenSpec.ofChange freightComesWrong)

/- THE SECOND FORM. 'bulk': how many values and letters a reading holds, each counted each time it is reached (what is shared counts as often as it is met; a slice's spare places count too). A statement '..UptoSaid' is the law's where the arguments, and the package variables that the reading takes, are together of bulk at most 1048576: NARROWER than '..Said'. Prove '..Said' where nothing that the law and all that it calls make is longer than what came in: it says more and counts as full. Else prove '..UptoSaid'. A law counts once. -/
mutual
def uptoBulk {H : Type} : DataW H → Nat
  | .lit (.string bytes) => bytes.length + 1
  | .lit _ => 1
  | .nil => 1
  | .ptr d => uptoBulk d + 1
  | .slice elems spare => uptoBulkAll elems + uptoBulkAll spare + 1
  | .agg parts => uptoBulkAll parts + 1
  | .iface _ d => uptoBulk d + 1
  | .map entries => uptoBulkEntries entries + 1
  | .held _ => 1
def uptoBulkAll {H : Type} : List (DataW H) → Nat
  | [] => 0
  | d :: r => uptoBulk d + uptoBulkAll r
def uptoBulkEntries {H : Type} : List (Lit × DataW H) → Nat
  | [] => 0
  | x :: r => uptoBulkEntry x + uptoBulkEntries r
def uptoBulkEntry {H : Type} : Lit × DataW H → Nat
  | (.string bytes, d) => bytes.length + uptoBulk d + 1
  | (_, d) => uptoBulk d + 1
 end
def uptoSmall : (H : Type) → List (DataW H) → Bool := fun _ ds => decide (uptoBulkAll ds ≤ 1048576)
def OpenSpec.upto (s : _root_.Go.ChangeSpec) : _root_.Go.OpenSpec := { _root_.Go.OpenSpec.ofChange s with cond := some uptoSmall }

/-- 'halyardlaw15.FreightOwn', WHERE WHAT IT READS IS OF BULK AT MOST 1048576: true; the input reads as it did. -/
def freightOwnUptoRow : OpenClaim := { program := "ythlpoepeofgafaa", sum := "06002815862b3f52c96f7edb620a37926f8fb7f0dcb418a3c251e873fc31076b", func := "halyard/halyardlaw15.FreightOwn", spec := "freightOwn", unfollowed := true, recurses := true, apart := false, narrowed := true }
def FreightOwnUptoSaid : Prop := freightOwnUptoRow.holds Try.pinned (OpenSpec.upto freightOwnSpec)

/-- 'halyardlaw15.FreightNone', WHERE WHAT IT READS IS OF BULK AT MOST 1048576: true; the input reads as it did. -/
def freightNoneUptoRow : OpenClaim := { program := "ythlpoepeofgafaa", sum := "06002815862b3f52c96f7edb620a37926f8fb7f0dcb418a3c251e873fc31076b", func := "halyard/halyardlaw15.FreightNone", spec := "freightNone", unfollowed := true, recurses := true, apart := false, narrowed := true }
def FreightNoneUptoSaid : Prop := freightNoneUptoRow.holds Try.pinned (OpenSpec.upto freightNoneSpec)

/-- 'halyardlaw15.FreightCalls', WHERE WHAT IT READS IS OF BULK AT MOST 1048576: true; the input reads as it did. -/
def freightCallsUptoRow : OpenClaim := { program := "ythlpoepeofgafaa", sum := "06002815862b3f52c96f7edb620a37926f8fb7f0dcb418a3c251e873fc31076b", func := "halyard/halyardlaw15.FreightCalls", spec := "freightCalls", unfollowed := true, recurses := true, apart := false, narrowed := true }
def FreightCallsUptoSaid : Prop := freightCallsUptoRow.holds Try.pinned (OpenSpec.upto freightCallsSpec)

/-- 'halyardlaw15.FreightComes', WHERE WHAT IT READS IS OF BULK AT MOST 1048576: true; the input reads as it did. -/
def freightComesUptoRow : OpenClaim := { program := "ythlpoepeofgafaa", sum := "06002815862b3f52c96f7edb620a37926f8fb7f0dcb418a3c251e873fc31076b", func := "halyard/halyardlaw15.FreightComes", spec := "freightComes", unfollowed := true, recurses := true, apart := false, narrowed := true }
def FreightComesUptoSaid : Prop := freightComesUptoRow.holds Try.pinned (OpenSpec.upto freightComesSpec)

end Rows
end Go.Proofs.Ythlpoepeofgafaa
