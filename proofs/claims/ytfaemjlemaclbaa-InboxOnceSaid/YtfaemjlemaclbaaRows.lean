/-
  No cell of these rows narrows 'for every input' (looked for: loops, veiled, ifaces, maps, wideKeys, modest, calm, conditions, laid).
  DERIVED. THE GIVEN ROWS OF THIS SEAT. 6 by the template 'for every input the law returns true; each argument reads behind the call as it read before'; 0 by the template 'total and deterministic' (their statements: YtfaemjlemaclbaaTotals.lean).
  GIVEN WITH THE SEED: the statements are not yours to turn. If you find one false, say at which input.
  Laid BY PROGRAM, IN A SANDBOX (cutbox-rows.mjs): the forced cells as the released guide's own fill.sh prints them over the translation fe59f0165a46b2ae… (all of the seat's roots in one cut). By AI agents, Wed Nov 11 2026. No macro, syntax, notation, axiom, sorry.
-/
import Derived.Test.YtfaemjlemaclbaaChecked
import GoSem.Claim
import GoSem.ClaimJoined
import GoSem.ClaimMapViews
import Derived.JoinedTies
import Derived.KernelRfl
namespace Go.Proofs.Ytfaemjlemaclbaa
/- THE CELL 'sum', in the pinned program and in every row, IS THE sha256 OF THE DUMP (.gsa) THAT YtfaemjlemaclbaaProg.lean LOADS. Nothing in Lean hashes anything: it is a label: what it is worth is what the hold of that sum in a sandbox is worth. -/
noncomputable def Try.pinned : Pinned := { name := "ytfaemjlemaclbaa", sum := "fe59f0165a46b2aef926d34a00c4f0371888f4a1560ddc3bdd8e9407ced067eb", checked := Try.checked }
namespace Rows
def none {H : Type} : Left H := { results := [], args := [] }

/-- 'halyardlaw13.InboxNames': WHATEVER THE INPUT: true; the input reads as it did. -/
def inboxNamesSpec : ChangeSpec := { name := "inboxNames", fn := fun _ => fun
  | [] => { results := [.lit (.bool true)], args := [] }
  | _ => none }
def inboxNamesRow : OpenClaim := { program := "ytfaemjlemaclbaa", sum := "fe59f0165a46b2aef926d34a00c4f0371888f4a1560ddc3bdd8e9407ced067eb", func := "halyard/halyardlaw13.InboxNames", spec := "inboxNames", unfollowed := true, recurses := true, plainKeys := false, apart := false }
def InboxNamesSaid : Prop := inboxNamesRow.holds Try.pinned (OpenSpec.ofChange inboxNamesSpec)

/-- ITS FALSE NEIGHBOUR: 'it returns false'. Refute it at one input. -/
def inboxNamesWrong : ChangeSpec := { name := "inboxNames", fn := fun _ => fun
  | [] => { results := [.lit (.bool false)], args := [] }
  | _ => none }
def InboxNamesWrongFalsely : Prop := inboxNamesRow.holds Try.pinned (OpenSpec.ofChange inboxNamesWrong)

/-- 'halyardlaw13.InboxTogether': WHATEVER THE INPUT: true; the input reads as it did. -/
def inboxTogetherSpec : ChangeSpec := { name := "inboxTogether", fn := fun _ => fun
  | [d1, d2, d3, d4] => { results := [.lit (.bool true)], args := [d1, d2, d3, d4] }
  | _ => none }
def inboxTogetherRow : OpenClaim := { program := "ytfaemjlemaclbaa", sum := "fe59f0165a46b2aef926d34a00c4f0371888f4a1560ddc3bdd8e9407ced067eb", func := "halyard/halyardlaw13.InboxTogether", spec := "inboxTogether", unfollowed := true, recurses := true, plainKeys := false, apart := false }
def InboxTogetherSaid : Prop := inboxTogetherRow.holds Try.pinned (OpenSpec.ofChange inboxTogetherSpec)

/-- ITS FALSE NEIGHBOUR: 'it returns false'. Refute it at one input. -/
def inboxTogetherWrong : ChangeSpec := { name := "inboxTogether", fn := fun _ => fun
  | [d1, d2, d3, d4] => { results := [.lit (.bool false)], args := [d1, d2, d3, d4] }
  | _ => none }
def InboxTogetherWrongFalsely : Prop := inboxTogetherRow.holds Try.pinned (OpenSpec.ofChange inboxTogetherWrong)

/-- 'halyardlaw13.InboxMakes': WHATEVER THE INPUT: true; the input reads as it did. -/
def inboxMakesSpec : ChangeSpec := { name := "inboxMakes", fn := fun _ => fun
  | [d1, d2] => { results := [.lit (.bool true)], args := [d1, d2] }
  | _ => none }
def inboxMakesRow : OpenClaim := { program := "ytfaemjlemaclbaa", sum := "fe59f0165a46b2aef926d34a00c4f0371888f4a1560ddc3bdd8e9407ced067eb", func := "halyard/halyardlaw13.InboxMakes", spec := "inboxMakes", unfollowed := true, recurses := true, plainKeys := false, apart := false }
def InboxMakesSaid : Prop := inboxMakesRow.holds Try.pinned (OpenSpec.ofChange inboxMakesSpec)

/-- ITS FALSE NEIGHBOUR: 'it returns false'. Refute it at one input. -/
def inboxMakesWrong : ChangeSpec := { name := "inboxMakes", fn := fun _ => fun
  | [d1, d2] => { results := [.lit (.bool false)], args := [d1, d2] }
  | _ => none }
def InboxMakesWrongFalsely : Prop := inboxMakesRow.holds Try.pinned (OpenSpec.ofChange inboxMakesWrong)

/-- 'halyardlaw13.InboxOnce': WHATEVER THE INPUT: true; the input reads as it did. -/
def inboxOnceSpec : ChangeSpec := { name := "inboxOnce", fn := fun _ => fun
  | [d1, d2, d3] => { results := [.lit (.bool true)], args := [d1, d2, d3] }
  | _ => none }
def inboxOnceRow : OpenClaim := { program := "ytfaemjlemaclbaa", sum := "fe59f0165a46b2aef926d34a00c4f0371888f4a1560ddc3bdd8e9407ced067eb", func := "halyard/halyardlaw13.InboxOnce", spec := "inboxOnce", unfollowed := true, recurses := true, plainKeys := false, apart := false }
def InboxOnceSaid : Prop := inboxOnceRow.holds Try.pinned (OpenSpec.ofChange inboxOnceSpec)

/-- ITS FALSE NEIGHBOUR: 'it returns false'. Refute it at one input. -/
def inboxOnceWrong : ChangeSpec := { name := "inboxOnce", fn := fun _ => fun
  | [d1, d2, d3] => { results := [.lit (.bool false)], args := [d1, d2, d3] }
  | _ => none }
def InboxOnceWrongFalsely : Prop := inboxOnceRow.holds Try.pinned (OpenSpec.ofChange inboxOnceWrong)

/-- 'halyardlaw13.InboxBounds': WHATEVER THE INPUT: true; the input reads as it did. -/
def inboxBoundsSpec : ChangeSpec := { name := "inboxBounds", fn := fun _ => fun
  | [d1, d2, d3] => { results := [.lit (.bool true)], args := [d1, d2, d3] }
  | _ => none }
def inboxBoundsRow : OpenClaim := { program := "ytfaemjlemaclbaa", sum := "fe59f0165a46b2aef926d34a00c4f0371888f4a1560ddc3bdd8e9407ced067eb", func := "halyard/halyardlaw13.InboxBounds", spec := "inboxBounds", unfollowed := true, recurses := true, plainKeys := false, apart := false }
def InboxBoundsSaid : Prop := inboxBoundsRow.holds Try.pinned (OpenSpec.ofChange inboxBoundsSpec)

/-- ITS FALSE NEIGHBOUR: 'it returns false'. Refute it at one input. -/
def inboxBoundsWrong : ChangeSpec := { name := "inboxBounds", fn := fun _ => fun
  | [d1, d2, d3] => { results := [.lit (.bool false)], args := [d1, d2, d3] }
  | _ => none }
def InboxBoundsWrongFalsely : Prop := inboxBoundsRow.holds Try.pinned (OpenSpec.ofChange inboxBoundsWrong)

/-- 'halyardlaw13.InboxNil': WHATEVER THE INPUT: true; the input reads as it did. -/
def inboxNilSpec : ChangeSpec := { name := "inboxNil", fn := fun _ => fun
  | [d] => { results := [.lit (.bool true)], args := [d] }
  | _ => none }
def inboxNilRow : OpenClaim := { program := "ytfaemjlemaclbaa", sum := "fe59f0165a46b2aef926d34a00c4f0371888f4a1560ddc3bdd8e9407ced067eb", func := "halyard/halyardlaw13.InboxNil", spec := "inboxNil", unfollowed := true, recurses := true, plainKeys := false, apart := false }
def InboxNilSaid : Prop := inboxNilRow.holds Try.pinned (OpenSpec.ofChange inboxNilSpec)

/-- ITS FALSE NEIGHBOUR: 'it returns false'. Refute it at one input. -/
def inboxNilWrong : ChangeSpec := { name := "inboxNil", fn := fun _ => fun
  | [d] => { results := [.lit (.bool false)], args := [d] }
  | _ => none }
def InboxNilWrongFalsely : Prop := inboxNilRow.holds Try.pinned (OpenSpec.ofChange inboxNilWrong)

/- THE SECOND FORM. 'bulk': how many values and letters a reading holds, each counted each time it is reached (what is shared counts as often as it is met; a slice's spare places count too). A statement '..UptoSaid' is the law's where the arguments, and the package variables that the reading takes, are together of bulk at most 1048576: NARROWER than '..Said'. Prove '..Said' where nothing that the law and all that it calls make is longer than what came in: it says more and counts as full. Else prove '..UptoSaid'. A law counts once. -/
mutual
def uptoBulk {H : Type} : DataW H → Nat
  | .lit (.string bytes) => bytes.length + 1
  | .lit _ => 1
  | .nil => 1
  | .ptr d => uptoBulk d + 1
  | .slice elems spare => uptoBulkAll elems + uptoBulkAll spare + 1
  | .agg parts => uptoBulkAll parts + 1
  | .iface _ d => uptoBulk d + 1
  | .map entries => uptoBulkEntries entries + 1
  | .held _ => 1
def uptoBulkAll {H : Type} : List (DataW H) → Nat
  | [] => 0
  | d :: r => uptoBulk d + uptoBulkAll r
def uptoBulkEntries {H : Type} : List (Lit × DataW H) → Nat
  | [] => 0
  | x :: r => uptoBulkEntry x + uptoBulkEntries r
def uptoBulkEntry {H : Type} : Lit × DataW H → Nat
  | (.string bytes, d) => bytes.length + uptoBulk d + 1
  | (_, d) => uptoBulk d + 1
 end
def uptoSmall : (H : Type) → List (DataW H) → Bool := fun _ ds => decide (uptoBulkAll ds ≤ 1048576)
def OpenSpec.upto (s : _root_.Go.ChangeSpec) : _root_.Go.OpenSpec := { _root_.Go.OpenSpec.ofChange s with cond := some uptoSmall }

/-- 'halyardlaw13.InboxNames', WHERE WHAT IT READS IS OF BULK AT MOST 1048576: true; the input reads as it did. -/
def inboxNamesUptoRow : OpenClaim := { program := "ytfaemjlemaclbaa", sum := "fe59f0165a46b2aef926d34a00c4f0371888f4a1560ddc3bdd8e9407ced067eb", func := "halyard/halyardlaw13.InboxNames", spec := "inboxNames", unfollowed := true, recurses := true, plainKeys := false, apart := false, narrowed := true }
def InboxNamesUptoSaid : Prop := inboxNamesUptoRow.holds Try.pinned (OpenSpec.upto inboxNamesSpec)

/-- 'halyardlaw13.InboxTogether', WHERE WHAT IT READS IS OF BULK AT MOST 1048576: true; the input reads as it did. -/
def inboxTogetherUptoRow : OpenClaim := { program := "ytfaemjlemaclbaa", sum := "fe59f0165a46b2aef926d34a00c4f0371888f4a1560ddc3bdd8e9407ced067eb", func := "halyard/halyardlaw13.InboxTogether", spec := "inboxTogether", unfollowed := true, recurses := true, plainKeys := false, apart := false, narrowed := true }
def InboxTogetherUptoSaid : Prop := inboxTogetherUptoRow.holds Try.pinned (OpenSpec.upto inboxTogetherSpec)

/-- 'halyardlaw13.InboxMakes', WHERE WHAT IT READS IS OF BULK AT MOST 1048576: true; the input reads as it did. -/
def inboxMakesUptoRow : OpenClaim := { program := "ytfaemjlemaclbaa", sum := "fe59f0165a46b2aef926d34a00c4f0371888f4a1560ddc3bdd8e9407ced067eb", func := "halyard/halyardlaw13.InboxMakes", spec := "inboxMakes", unfollowed := true, recurses := true, plainKeys := false, apart := false, narrowed := true }
def InboxMakesUptoSaid : Prop := inboxMakesUptoRow.holds Try.pinned (OpenSpec.upto inboxMakesSpec)

/-- 'halyardlaw13.InboxOnce', WHERE WHAT IT READS IS OF BULK AT MOST 1048576: true; the input reads as it did. -/
def inboxOnceUptoRow : OpenClaim := { program := "ytfaemjlemaclbaa", sum := "fe59f0165a46b2aef926d34a00c4f0371888f4a1560ddc3bdd8e9407ced067eb", func := "halyard/halyardlaw13.InboxOnce", spec := "inboxOnce", unfollowed := true, recurses := true, plainKeys := false, apart := false, narrowed := true }
def InboxOnceUptoSaid : Prop := inboxOnceUptoRow.holds Try.pinned (OpenSpec.upto inboxOnceSpec)

/-- 'halyardlaw13.InboxBounds', WHERE WHAT IT READS IS OF BULK AT MOST 1048576: true; the input reads as it did. -/
def inboxBoundsUptoRow : OpenClaim := { program := "ytfaemjlemaclbaa", sum := "fe59f0165a46b2aef926d34a00c4f0371888f4a1560ddc3bdd8e9407ced067eb", func := "halyard/halyardlaw13.InboxBounds", spec := "inboxBounds", unfollowed := true, recurses := true, plainKeys := false, apart := false, narrowed := true }
def InboxBoundsUptoSaid : Prop := inboxBoundsUptoRow.holds Try.pinned (OpenSpec.upto inboxBoundsSpec)

/-- 'halyardlaw13.InboxNil', WHERE WHAT IT READS IS OF BULK AT MOST 1048576: true; the input reads as it did. -/
def inboxNilUptoRow : OpenClaim := { program := "ytfaemjlemaclbaa", sum := "fe59f0165a46b2aef926d34a00c4f0371888f4a1560ddc3bdd8e9407ced067eb", func := "halyard/halyardlaw13.InboxNil", spec := "inboxNil", unfollowed := true, recurses := true, plainKeys := false, apart := false, narrowed := true }
def InboxNilUptoSaid : Prop := inboxNilUptoRow.holds Try.pinned (OpenSpec.upto inboxNilSpec)

end Rows
end Go.Proofs.Ytfaemjlemaclbaa
