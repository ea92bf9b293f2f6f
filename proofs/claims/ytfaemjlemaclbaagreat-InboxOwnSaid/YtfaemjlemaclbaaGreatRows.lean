/-
  No cell of these rows narrows 'for every input' (looked for: loops, veiled, ifaces, maps, wideKeys, modest, calm, conditions, laid).
  DERIVED. THE GIVEN ROWS OF THIS SEAT. 5 by the template 'for every input the law returns true; each argument reads behind the call as it read before'; 0 by the template 'total and deterministic' (their statements: YtfaemjlemaclbaaGreatTotals.lean).
  GIVEN WITH THE SEED: the statements are not yours to turn. If you find one false, say at which input.
  Laid BY PROGRAM, IN A SANDBOX (cutbox-rows.mjs): the forced cells as the released guide's own fill.sh prints them over the translation 293bdd854956a720… (all of the seat's roots in one cut). By AI agents, Wed Nov 11 2026. No macro, syntax, notation, axiom, sorry.
-/
import Derived.Test.YtfaemjlemaclbaaGreatChecked
import GoSem.Claim
import GoSem.ClaimJoined
import GoSem.ClaimMapViews
import Derived.JoinedTies
import Derived.KernelRfl
namespace Go.Proofs.YtfaemjlemaclbaaGreat
/- THE CELL 'sum', in the pinned program and in every row, IS THE sha256 OF THE DUMP (.gsa) THAT YtfaemjlemaclbaaGreatProg.lean LOADS. Nothing in Lean hashes anything: it is a label: what it is worth is what the hold of that sum in a sandbox is worth. -/
noncomputable def Tryz.pinned : Pinned := { name := "ytfaemjlemaclbaagreat", sum := "293bdd854956a7204d5ad17c84eda06ab1d3f9eadd7b168a99bcc83cffdd9995", checked := Tryz.checked }
namespace Rows
def none {H : Type} : Left H := { results := [], args := [] }

/-- 'halyardlaw13.InboxTakes': WHATEVER THE INPUT: true; the input reads as it did. -/
def inboxTakesSpec : ChangeSpec := { name := "inboxTakes", fn := fun _ => fun
  | [d1, d2, d3] => { results := [.lit (.bool true)], args := [d1, d2, d3] }
  | _ => none }
def inboxTakesRow : OpenClaim := { program := "ytfaemjlemaclbaagreat", sum := "293bdd854956a7204d5ad17c84eda06ab1d3f9eadd7b168a99bcc83cffdd9995", func := "halyard/halyardlaw13.InboxTakes", spec := "inboxTakes", unfollowed := true, recurses := true, plainKeys := false, apart := false }
def InboxTakesSaid : Prop := inboxTakesRow.holds Tryz.pinned (OpenSpec.ofChange inboxTakesSpec)

/-- ITS FALSE NEIGHBOUR: 'it returns false'. Refute it at one input. -/
def inboxTakesWrong : ChangeSpec := { name := "inboxTakes", fn := fun _ => fun
  | [d1, d2, d3] => { results := [.lit (.bool false)], args := [d1, d2, d3] }
  | _ => none }
def InboxTakesWrongFalsely : Prop := inboxTakesRow.holds Tryz.pinned (OpenSpec.ofChange inboxTakesWrong)

/-- 'halyardlaw13.InboxDecides': WHATEVER THE INPUT: true; the input reads as it did. -/
def inboxDecidesSpec : ChangeSpec := { name := "inboxDecides", fn := fun _ => fun
  | [d1, d2, d3] => { results := [.lit (.bool true)], args := [d1, d2, d3] }
  | _ => none }
def inboxDecidesRow : OpenClaim := { program := "ytfaemjlemaclbaagreat", sum := "293bdd854956a7204d5ad17c84eda06ab1d3f9eadd7b168a99bcc83cffdd9995", func := "halyard/halyardlaw13.InboxDecides", spec := "inboxDecides", unfollowed := true, recurses := true, plainKeys := false, apart := false }
def InboxDecidesSaid : Prop := inboxDecidesRow.holds Tryz.pinned (OpenSpec.ofChange inboxDecidesSpec)

/-- ITS FALSE NEIGHBOUR: 'it returns false'. Refute it at one input. -/
def inboxDecidesWrong : ChangeSpec := { name := "inboxDecides", fn := fun _ => fun
  | [d1, d2, d3] => { results := [.lit (.bool false)], args := [d1, d2, d3] }
  | _ => none }
def InboxDecidesWrongFalsely : Prop := inboxDecidesRow.holds Tryz.pinned (OpenSpec.ofChange inboxDecidesWrong)

/-- 'halyardlaw13.InboxDrops': WHATEVER THE INPUT: true; the input reads as it did. -/
def inboxDropsSpec : ChangeSpec := { name := "inboxDrops", fn := fun _ => fun
  | [d1, d2, d3] => { results := [.lit (.bool true)], args := [d1, d2, d3] }
  | _ => none }
def inboxDropsRow : OpenClaim := { program := "ytfaemjlemaclbaagreat", sum := "293bdd854956a7204d5ad17c84eda06ab1d3f9eadd7b168a99bcc83cffdd9995", func := "halyard/halyardlaw13.InboxDrops", spec := "inboxDrops", unfollowed := true, recurses := true, plainKeys := false, apart := false }
def InboxDropsSaid : Prop := inboxDropsRow.holds Tryz.pinned (OpenSpec.ofChange inboxDropsSpec)

/-- ITS FALSE NEIGHBOUR: 'it returns false'. Refute it at one input. -/
def inboxDropsWrong : ChangeSpec := { name := "inboxDrops", fn := fun _ => fun
  | [d1, d2, d3] => { results := [.lit (.bool false)], args := [d1, d2, d3] }
  | _ => none }
def InboxDropsWrongFalsely : Prop := inboxDropsRow.holds Tryz.pinned (OpenSpec.ofChange inboxDropsWrong)

/-- 'halyardlaw13.InboxAll': WHATEVER THE INPUT: true; the input reads as it did. -/
def inboxAllSpec : ChangeSpec := { name := "inboxAll", fn := fun _ => fun
  | [d1, d2, d3] => { results := [.lit (.bool true)], args := [d1, d2, d3] }
  | _ => none }
def inboxAllRow : OpenClaim := { program := "ytfaemjlemaclbaagreat", sum := "293bdd854956a7204d5ad17c84eda06ab1d3f9eadd7b168a99bcc83cffdd9995", func := "halyard/halyardlaw13.InboxAll", spec := "inboxAll", unfollowed := true, recurses := true, plainKeys := false, apart := false }
def InboxAllSaid : Prop := inboxAllRow.holds Tryz.pinned (OpenSpec.ofChange inboxAllSpec)

/-- ITS FALSE NEIGHBOUR: 'it returns false'. Refute it at one input. -/
def inboxAllWrong : ChangeSpec := { name := "inboxAll", fn := fun _ => fun
  | [d1, d2, d3] => { results := [.lit (.bool false)], args := [d1, d2, d3] }
  | _ => none }
def InboxAllWrongFalsely : Prop := inboxAllRow.holds Tryz.pinned (OpenSpec.ofChange inboxAllWrong)

/-- 'halyardlaw13.InboxOwn': WHATEVER THE INPUT: true; the input reads as it did. -/
def inboxOwnSpec : ChangeSpec := { name := "inboxOwn", fn := fun _ => fun
  | [d1, d2, d3] => { results := [.lit (.bool true)], args := [d1, d2, d3] }
  | _ => none }
def inboxOwnRow : OpenClaim := { program := "ytfaemjlemaclbaagreat", sum := "293bdd854956a7204d5ad17c84eda06ab1d3f9eadd7b168a99bcc83cffdd9995", func := "halyard/halyardlaw13.InboxOwn", spec := "inboxOwn", unfollowed := true, recurses := true, plainKeys := false, apart := false }
def InboxOwnSaid : Prop := inboxOwnRow.holds Tryz.pinned (OpenSpec.ofChange inboxOwnSpec)

/-- ITS FALSE NEIGHBOUR: 'it returns false'. Refute it at one input. -/
def inboxOwnWrong : ChangeSpec := { name := "inboxOwn", fn := fun _ => fun
  | [d1, d2, d3] => { results := [.lit (.bool false)], args := [d1, d2, d3] }
  | _ => none }
def InboxOwnWrongFalsely : Prop := inboxOwnRow.holds Tryz.pinned (OpenSpec.ofChange inboxOwnWrong)

/- THE SECOND FORM. 'bulk': how many values and letters a reading holds, each counted each time it is reached (what is shared counts as often as it is met; a slice's spare places count too). A statement '..UptoSaid' is the law's where the arguments, and the package variables that the reading takes, are together of bulk at most 1048576: NARROWER than '..Said'. Prove '..Said' where nothing that the law and all that it calls make is longer than what came in: it says more and counts as full. Else prove '..UptoSaid'. A law counts once. -/
mutual
def uptoBulk {H : Type} : DataW H → Nat
  | .lit (.string bytes) => bytes.length + 1
  | .lit _ => 1
  | .nil => 1
  | .ptr d => uptoBulk d + 1
  | .slice elems spare => uptoBulkAll elems + uptoBulkAll spare + 1
  | .agg parts => uptoBulkAll parts + 1
  | .iface _ d => uptoBulk d + 1
  | .map entries => uptoBulkEntries entries + 1
  | .held _ => 1
def uptoBulkAll {H : Type} : List (DataW H) → Nat
  | [] => 0
  | d :: r => uptoBulk d + uptoBulkAll r
def uptoBulkEntries {H : Type} : List (Lit × DataW H) → Nat
  | [] => 0
  | x :: r => uptoBulkEntry x + uptoBulkEntries r
def uptoBulkEntry {H : Type} : Lit × DataW H → Nat
  | (.string bytes, d) => bytes.length + uptoBulk d + 1
  | (_, d) => uptoBulk d + 1
 end
def uptoSmall : (H : Type) → List (DataW H) → Bool := fun _ ds => decide (uptoBulkAll ds ≤ 1048576)
def OpenSpec.upto (s : _root_.Go.ChangeSpec) : _root_.Go.OpenSpec := { _root_.Go.OpenSpec.ofChange s with cond := some uptoSmall }

/-- 'halyardlaw13.InboxTakes', WHERE WHAT IT READS IS OF BULK AT MOST 1048576: true; the input reads as it did. -/
def inboxTakesUptoRow : OpenClaim := { program := "ytfaemjlemaclbaagreat", sum := "293bdd854956a7204d5ad17c84eda06ab1d3f9eadd7b168a99bcc83cffdd9995", func := "halyard/halyardlaw13.InboxTakes", spec := "inboxTakes", unfollowed := true, recurses := true, plainKeys := false, apart := false, narrowed := true }
def InboxTakesUptoSaid : Prop := inboxTakesUptoRow.holds Tryz.pinned (OpenSpec.upto inboxTakesSpec)

/-- 'halyardlaw13.InboxDecides', WHERE WHAT IT READS IS OF BULK AT MOST 1048576: true; the input reads as it did. -/
def inboxDecidesUptoRow : OpenClaim := { program := "ytfaemjlemaclbaagreat", sum := "293bdd854956a7204d5ad17c84eda06ab1d3f9eadd7b168a99bcc83cffdd9995", func := "halyard/halyardlaw13.InboxDecides", spec := "inboxDecides", unfollowed := true, recurses := true, plainKeys := false, apart := false, narrowed := true }
def InboxDecidesUptoSaid : Prop := inboxDecidesUptoRow.holds Tryz.pinned (OpenSpec.upto inboxDecidesSpec)

/-- 'halyardlaw13.InboxDrops', WHERE WHAT IT READS IS OF BULK AT MOST 1048576: true; the input reads as it did. -/
def inboxDropsUptoRow : OpenClaim := { program := "ytfaemjlemaclbaagreat", sum := "293bdd854956a7204d5ad17c84eda06ab1d3f9eadd7b168a99bcc83cffdd9995", func := "halyard/halyardlaw13.InboxDrops", spec := "inboxDrops", unfollowed := true, recurses := true, plainKeys := false, apart := false, narrowed := true }
def InboxDropsUptoSaid : Prop := inboxDropsUptoRow.holds Tryz.pinned (OpenSpec.upto inboxDropsSpec)

/-- 'halyardlaw13.InboxAll', WHERE WHAT IT READS IS OF BULK AT MOST 1048576: true; the input reads as it did. -/
def inboxAllUptoRow : OpenClaim := { program := "ytfaemjlemaclbaagreat", sum := "293bdd854956a7204d5ad17c84eda06ab1d3f9eadd7b168a99bcc83cffdd9995", func := "halyard/halyardlaw13.InboxAll", spec := "inboxAll", unfollowed := true, recurses := true, plainKeys := false, apart := false, narrowed := true }
def InboxAllUptoSaid : Prop := inboxAllUptoRow.holds Tryz.pinned (OpenSpec.upto inboxAllSpec)

/-- 'halyardlaw13.InboxOwn', WHERE WHAT IT READS IS OF BULK AT MOST 1048576: true; the input reads as it did. -/
def inboxOwnUptoRow : OpenClaim := { program := "ytfaemjlemaclbaagreat", sum := "293bdd854956a7204d5ad17c84eda06ab1d3f9eadd7b168a99bcc83cffdd9995", func := "halyard/halyardlaw13.InboxOwn", spec := "inboxOwn", unfollowed := true, recurses := true, plainKeys := false, apart := false, narrowed := true }
def InboxOwnUptoSaid : Prop := inboxOwnUptoRow.holds Tryz.pinned (OpenSpec.upto inboxOwnSpec)

end Rows
end Go.Proofs.YtfaemjlemaclbaaGreat
