/-
  No cell of these rows narrows 'for every input' (looked for: loops, veiled, ifaces, maps, wideKeys, modest, calm, conditions, laid).
  DERIVED. THE GIVEN ROWS OF THIS SEAT. 10 by the template 'for every input the law returns true; each argument reads behind the call as it read before'; 0 by the template 'total and deterministic' (their statements: YtgnbnkoanoalhaaTotals.lean).
  GIVEN WITH THE SEED: the statements are not yours to turn. If you find one false, say at which input.
  Laid BY PROGRAM, IN A SANDBOX (cutbox-rows.mjs): the forced cells as the released guide's own fill.sh prints them over the translation ed613c867872d0eb… (all of the seat's roots in one cut). By AI agents, Wed Nov 11 2026. No macro, syntax, notation, axiom, sorry.
-/
import Derived.Test.YtgnbnkoanoalhaaChecked
import GoSem.Claim
import GoSem.ClaimJoined
import GoSem.ClaimMapViews
import Derived.JoinedTies
import Derived.KernelRfl
namespace Go.Proofs.Ytgnbnkoanoalhaa
/- THE CELL 'sum', in the pinned program and in every row, IS THE sha256 OF THE DUMP (.gsa) THAT YtgnbnkoanoalhaaProg.lean LOADS. Nothing in Lean hashes anything: it is a label: what it is worth is what the hold of that sum in a sandbox is worth. -/
noncomputable def Try.pinned : Pinned := { name := "ytgnbnkoanoalhaa", sum := "ed613c867872d0eb02e92505a3b7d1ad33d668cfbde60c4abf885f199d970fa7", checked := Try.checked }
namespace Rows
def none {H : Type} : Left H := { results := [], args := [] }

/-- 'halyardlaw12.CutterCuts': WHATEVER THE INPUT: true; the input reads as it did. -/
def cutterCutsSpec : ChangeSpec := { name := "cutterCuts", fn := fun _ => fun
  | [d1, d2] => { results := [.lit (.bool true)], args := [d1, d2] }
  | _ => none }
def cutterCutsRow : OpenClaim := { program := "ytgnbnkoanoalhaa", sum := "ed613c867872d0eb02e92505a3b7d1ad33d668cfbde60c4abf885f199d970fa7", func := "halyard/halyardlaw12.CutterCuts", spec := "cutterCuts", apart := false }
def CutterCutsSaid : Prop := cutterCutsRow.holds Try.pinned (OpenSpec.ofChange cutterCutsSpec)

/-- ITS FALSE NEIGHBOUR: 'it returns false'. Refute it at one input. -/
def cutterCutsWrong : ChangeSpec := { name := "cutterCuts", fn := fun _ => fun
  | [d1, d2] => { results := [.lit (.bool false)], args := [d1, d2] }
  | _ => none }
def CutterCutsWrongFalsely : Prop := cutterCutsRow.holds Try.pinned (OpenSpec.ofChange cutterCutsWrong)

/-- 'halyardlaw12.CutterNames': WHATEVER THE INPUT: true; the input reads as it did. -/
def cutterNamesSpec : ChangeSpec := { name := "cutterNames", fn := fun _ => fun
  | [] => { results := [.lit (.bool true)], args := [] }
  | _ => none }
def cutterNamesRow : OpenClaim := { program := "ytgnbnkoanoalhaa", sum := "ed613c867872d0eb02e92505a3b7d1ad33d668cfbde60c4abf885f199d970fa7", func := "halyard/halyardlaw12.CutterNames", spec := "cutterNames", apart := false }
def CutterNamesSaid : Prop := cutterNamesRow.holds Try.pinned (OpenSpec.ofChange cutterNamesSpec)

/-- ITS FALSE NEIGHBOUR: 'it returns false'. Refute it at one input. -/
def cutterNamesWrong : ChangeSpec := { name := "cutterNames", fn := fun _ => fun
  | [] => { results := [.lit (.bool false)], args := [] }
  | _ => none }
def CutterNamesWrongFalsely : Prop := cutterNamesRow.holds Try.pinned (OpenSpec.ofChange cutterNamesWrong)

/-- 'halyardlaw12.CutterWhole': WHATEVER THE INPUT: true; the input reads as it did. -/
def cutterWholeSpec : ChangeSpec := { name := "cutterWhole", fn := fun _ => fun
  | [d] => { results := [.lit (.bool true)], args := [d] }
  | _ => none }
def cutterWholeRow : OpenClaim := { program := "ytgnbnkoanoalhaa", sum := "ed613c867872d0eb02e92505a3b7d1ad33d668cfbde60c4abf885f199d970fa7", func := "halyard/halyardlaw12.CutterWhole", spec := "cutterWhole", apart := false }
def CutterWholeSaid : Prop := cutterWholeRow.holds Try.pinned (OpenSpec.ofChange cutterWholeSpec)

/-- ITS FALSE NEIGHBOUR: 'it returns false'. Refute it at one input. -/
def cutterWholeWrong : ChangeSpec := { name := "cutterWhole", fn := fun _ => fun
  | [d] => { results := [.lit (.bool false)], args := [d] }
  | _ => none }
def CutterWholeWrongFalsely : Prop := cutterWholeRow.holds Try.pinned (OpenSpec.ofChange cutterWholeWrong)

/-- 'halyardlaw12.CutterBack': WHATEVER THE INPUT: true; the input reads as it did. -/
def cutterBackSpec : ChangeSpec := { name := "cutterBack", fn := fun _ => fun
  | [d1, d2, d3] => { results := [.lit (.bool true)], args := [d1, d2, d3] }
  | _ => none }
def cutterBackRow : OpenClaim := { program := "ytgnbnkoanoalhaa", sum := "ed613c867872d0eb02e92505a3b7d1ad33d668cfbde60c4abf885f199d970fa7", func := "halyard/halyardlaw12.CutterBack", spec := "cutterBack", apart := false }
def CutterBackSaid : Prop := cutterBackRow.holds Try.pinned (OpenSpec.ofChange cutterBackSpec)

/-- ITS FALSE NEIGHBOUR: 'it returns false'. Refute it at one input. -/
def cutterBackWrong : ChangeSpec := { name := "cutterBack", fn := fun _ => fun
  | [d1, d2, d3] => { results := [.lit (.bool false)], args := [d1, d2, d3] }
  | _ => none }
def CutterBackWrongFalsely : Prop := cutterBackRow.holds Try.pinned (OpenSpec.ofChange cutterBackWrong)

/-- 'halyardlaw12.CutterPuts': WHATEVER THE INPUT: true; the input reads as it did. -/
def cutterPutsSpec : ChangeSpec := { name := "cutterPuts", fn := fun _ => fun
  | [d] => { results := [.lit (.bool true)], args := [d] }
  | _ => none }
def cutterPutsRow : OpenClaim := { program := "ytgnbnkoanoalhaa", sum := "ed613c867872d0eb02e92505a3b7d1ad33d668cfbde60c4abf885f199d970fa7", func := "halyard/halyardlaw12.CutterPuts", spec := "cutterPuts", unfollowed := true, recurses := true, apart := false }
def CutterPutsSaid : Prop := cutterPutsRow.holds Try.pinned (OpenSpec.ofChange cutterPutsSpec)

/-- ITS FALSE NEIGHBOUR: 'it returns false'. Refute it at one input. -/
def cutterPutsWrong : ChangeSpec := { name := "cutterPuts", fn := fun _ => fun
  | [d] => { results := [.lit (.bool false)], args := [d] }
  | _ => none }
def CutterPutsWrongFalsely : Prop := cutterPutsRow.holds Try.pinned (OpenSpec.ofChange cutterPutsWrong)

/-- 'halyardlaw12.CutterPlays': WHATEVER THE INPUT: true; the input reads as it did. -/
def cutterPlaysSpec : ChangeSpec := { name := "cutterPlays", fn := fun _ => fun
  | [d] => { results := [.lit (.bool true)], args := [d] }
  | _ => none }
def cutterPlaysRow : OpenClaim := { program := "ytgnbnkoanoalhaa", sum := "ed613c867872d0eb02e92505a3b7d1ad33d668cfbde60c4abf885f199d970fa7", func := "halyard/halyardlaw12.CutterPlays", spec := "cutterPlays", unfollowed := true, recurses := true, apart := false }
def CutterPlaysSaid : Prop := cutterPlaysRow.holds Try.pinned (OpenSpec.ofChange cutterPlaysSpec)

/-- ITS FALSE NEIGHBOUR: 'it returns false'. Refute it at one input. -/
def cutterPlaysWrong : ChangeSpec := { name := "cutterPlays", fn := fun _ => fun
  | [d] => { results := [.lit (.bool false)], args := [d] }
  | _ => none }
def CutterPlaysWrongFalsely : Prop := cutterPlaysRow.holds Try.pinned (OpenSpec.ofChange cutterPlaysWrong)

/-- 'halyardlaw12.CutterTwo': WHATEVER THE INPUT: true; the input reads as it did. -/
def cutterTwoSpec : ChangeSpec := { name := "cutterTwo", fn := fun _ => fun
  | [d1, d2] => { results := [.lit (.bool true)], args := [d1, d2] }
  | _ => none }
def cutterTwoRow : OpenClaim := { program := "ytgnbnkoanoalhaa", sum := "ed613c867872d0eb02e92505a3b7d1ad33d668cfbde60c4abf885f199d970fa7", func := "halyard/halyardlaw12.CutterTwo", spec := "cutterTwo", unfollowed := true, recurses := true, apart := false }
def CutterTwoSaid : Prop := cutterTwoRow.holds Try.pinned (OpenSpec.ofChange cutterTwoSpec)

/-- ITS FALSE NEIGHBOUR: 'it returns false'. Refute it at one input. -/
def cutterTwoWrong : ChangeSpec := { name := "cutterTwo", fn := fun _ => fun
  | [d1, d2] => { results := [.lit (.bool false)], args := [d1, d2] }
  | _ => none }
def CutterTwoWrongFalsely : Prop := cutterTwoRow.holds Try.pinned (OpenSpec.ofChange cutterTwoWrong)

/-- 'halyardlaw12.CutterKeeps': WHATEVER THE INPUT: true; the input reads as it did. -/
def cutterKeepsSpec : ChangeSpec := { name := "cutterKeeps", fn := fun _ => fun
  | [d] => { results := [.lit (.bool true)], args := [d] }
  | _ => none }
def cutterKeepsRow : OpenClaim := { program := "ytgnbnkoanoalhaa", sum := "ed613c867872d0eb02e92505a3b7d1ad33d668cfbde60c4abf885f199d970fa7", func := "halyard/halyardlaw12.CutterKeeps", spec := "cutterKeeps", unfollowed := true, recurses := true, apart := false }
def CutterKeepsSaid : Prop := cutterKeepsRow.holds Try.pinned (OpenSpec.ofChange cutterKeepsSpec)

/-- ITS FALSE NEIGHBOUR: 'it returns false'. Refute it at one input. -/
def cutterKeepsWrong : ChangeSpec := { name := "cutterKeeps", fn := fun _ => fun
  | [d] => { results := [.lit (.bool false)], args := [d] }
  | _ => none }
def CutterKeepsWrongFalsely : Prop := cutterKeepsRow.holds Try.pinned (OpenSpec.ofChange cutterKeepsWrong)

/-- 'halyardlaw12.CutterNil': WHATEVER THE INPUT: true; the input reads as it did. -/
def cutterNilSpec : ChangeSpec := { name := "cutterNil", fn := fun _ => fun
  | [d] => { results := [.lit (.bool true)], args := [d] }
  | _ => none }
def cutterNilRow : OpenClaim := { program := "ytgnbnkoanoalhaa", sum := "ed613c867872d0eb02e92505a3b7d1ad33d668cfbde60c4abf885f199d970fa7", func := "halyard/halyardlaw12.CutterNil", spec := "cutterNil", unfollowed := true, recurses := true, apart := false }
def CutterNilSaid : Prop := cutterNilRow.holds Try.pinned (OpenSpec.ofChange cutterNilSpec)

/-- ITS FALSE NEIGHBOUR: 'it returns false'. Refute it at one input. -/
def cutterNilWrong : ChangeSpec := { name := "cutterNil", fn := fun _ => fun
  | [d] => { results := [.lit (.bool false)], args := [d] }
  | _ => none }
def CutterNilWrongFalsely : Prop := cutterNilRow.holds Try.pinned (OpenSpec.ofChange cutterNilWrong)

/-- 'halyardlaw12.CutterOwn': WHATEVER THE INPUT: true; the input reads as it did. -/
def cutterOwnSpec : ChangeSpec := { name := "cutterOwn", fn := fun _ => fun
  | [d1, d2, d3] => { results := [.lit (.bool true)], args := [d1, d2, d3] }
  | _ => none }
def cutterOwnRow : OpenClaim := { program := "ytgnbnkoanoalhaa", sum := "ed613c867872d0eb02e92505a3b7d1ad33d668cfbde60c4abf885f199d970fa7", func := "halyard/halyardlaw12.CutterOwn", spec := "cutterOwn", unfollowed := true, recurses := true, apart := false }
def CutterOwnSaid : Prop := cutterOwnRow.holds Try.pinned (OpenSpec.ofChange cutterOwnSpec)

/-- ITS FALSE NEIGHBOUR: 'it returns false'. Refute it at one input. -/
def cutterOwnWrong : ChangeSpec := { name := "cutterOwn", fn := fun _ => fun
  | [d1, d2, d3] => { results := [.lit (.bool false)], args := [d1, d2, d3] }
  | _ => none }
def CutterOwnWrongFalsely : Prop := cutterOwnRow.holds Try.pinned (OpenSpec.ofChange cutterOwnWrong)

/- THE SECOND FORM. 'bulk': how many values and letters a reading holds, each counted each time it is reached (what is shared counts as often as it is met; a slice's spare places count too). A statement '..UptoSaid' is the law's where the arguments, and the package variables that the reading takes, are together of bulk at most 1048576: NARROWER than '..Said'. Prove '..Said' where nothing that the law and all that it calls make is longer than what came in: it says more and counts as full. Else prove '..UptoSaid'. A law counts once. -/
mutual
def uptoBulk {H : Type} : DataW H → Nat
  | .lit (.string bytes) => bytes.length + 1
  | .lit _ => 1
  | .nil => 1
  | .ptr d => uptoBulk d + 1
  | .slice elems spare => uptoBulkAll elems + uptoBulkAll spare + 1
  | .agg parts => uptoBulkAll parts + 1
  | .iface _ d => uptoBulk d + 1
  | .map entries => uptoBulkEntries entries + 1
  | .held _ => 1
def uptoBulkAll {H : Type} : List (DataW H) → Nat
  | [] => 0
  | d :: r => uptoBulk d + uptoBulkAll r
def uptoBulkEntries {H : Type} : List (Lit × DataW H) → Nat
  | [] => 0
  | x :: r => uptoBulkEntry x + uptoBulkEntries r
def uptoBulkEntry {H : Type} : Lit × DataW H → Nat
  | (.string bytes, d) => bytes.length + uptoBulk d + 1
  | (_, d) => uptoBulk d + 1
 end
def uptoSmall : (H : Type) → List (DataW H) → Bool := fun _ ds => decide (uptoBulkAll ds ≤ 1048576)
def OpenSpec.upto (s : _root_.Go.ChangeSpec) : _root_.Go.OpenSpec := { _root_.Go.OpenSpec.ofChange s with cond := some uptoSmall }

/-- 'halyardlaw12.CutterCuts', WHERE WHAT IT READS IS OF BULK AT MOST 1048576: true; the input reads as it did. -/
def cutterCutsUptoRow : OpenClaim := { program := "ytgnbnkoanoalhaa", sum := "ed613c867872d0eb02e92505a3b7d1ad33d668cfbde60c4abf885f199d970fa7", func := "halyard/halyardlaw12.CutterCuts", spec := "cutterCuts", apart := false, narrowed := true }
def CutterCutsUptoSaid : Prop := cutterCutsUptoRow.holds Try.pinned (OpenSpec.upto cutterCutsSpec)

/-- 'halyardlaw12.CutterNames', WHERE WHAT IT READS IS OF BULK AT MOST 1048576: true; the input reads as it did. -/
def cutterNamesUptoRow : OpenClaim := { program := "ytgnbnkoanoalhaa", sum := "ed613c867872d0eb02e92505a3b7d1ad33d668cfbde60c4abf885f199d970fa7", func := "halyard/halyardlaw12.CutterNames", spec := "cutterNames", apart := false, narrowed := true }
def CutterNamesUptoSaid : Prop := cutterNamesUptoRow.holds Try.pinned (OpenSpec.upto cutterNamesSpec)

/-- 'halyardlaw12.CutterWhole', WHERE WHAT IT READS IS OF BULK AT MOST 1048576: true; the input reads as it did. -/
def cutterWholeUptoRow : OpenClaim := { program := "ytgnbnkoanoalhaa", sum := "ed613c867872d0eb02e92505a3b7d1ad33d668cfbde60c4abf885f199d970fa7", func := "halyard/halyardlaw12.CutterWhole", spec := "cutterWhole", apart := false, narrowed := true }
def CutterWholeUptoSaid : Prop := cutterWholeUptoRow.holds Try.pinned (OpenSpec.upto cutterWholeSpec)

/-- 'halyardlaw12.CutterBack', WHERE WHAT IT READS IS OF BULK AT MOST 1048576: true; the input reads as it did. -/
def cutterBackUptoRow : OpenClaim := { program := "ytgnbnkoanoalhaa", sum := "ed613c867872d0eb02e92505a3b7d1ad33d668cfbde60c4abf885f199d970fa7", func := "halyard/halyardlaw12.CutterBack", spec := "cutterBack", apart := false, narrowed := true }
def CutterBackUptoSaid : Prop := cutterBackUptoRow.holds Try.pinned (OpenSpec.upto cutterBackSpec)

/-- 'halyardlaw12.CutterPuts', WHERE WHAT IT READS IS OF BULK AT MOST 1048576: true; the input reads as it did. -/
def cutterPutsUptoRow : OpenClaim := { program := "ytgnbnkoanoalhaa", sum := "ed613c867872d0eb02e92505a3b7d1ad33d668cfbde60c4abf885f199d970fa7", func := "halyard/halyardlaw12.CutterPuts", spec := "cutterPuts", unfollowed := true, recurses := true, apart := false, narrowed := true }
def CutterPutsUptoSaid : Prop := cutterPutsUptoRow.holds Try.pinned (OpenSpec.upto cutterPutsSpec)

/-- 'halyardlaw12.CutterPlays', WHERE WHAT IT READS IS OF BULK AT MOST 1048576: true; the input reads as it did. -/
def cutterPlaysUptoRow : OpenClaim := { program := "ytgnbnkoanoalhaa", sum := "ed613c867872d0eb02e92505a3b7d1ad33d668cfbde60c4abf885f199d970fa7", func := "halyard/halyardlaw12.CutterPlays", spec := "cutterPlays", unfollowed := true, recurses := true, apart := false, narrowed := true }
def CutterPlaysUptoSaid : Prop := cutterPlaysUptoRow.holds Try.pinned (OpenSpec.upto cutterPlaysSpec)

/-- 'halyardlaw12.CutterTwo', WHERE WHAT IT READS IS OF BULK AT MOST 1048576: true; the input reads as it did. -/
def cutterTwoUptoRow : OpenClaim := { program := "ytgnbnkoanoalhaa", sum := "ed613c867872d0eb02e92505a3b7d1ad33d668cfbde60c4abf885f199d970fa7", func := "halyard/halyardlaw12.CutterTwo", spec := "cutterTwo", unfollowed := true, recurses := true, apart := false, narrowed := true }
def CutterTwoUptoSaid : Prop := cutterTwoUptoRow.holds Try.pinned (OpenSpec.upto cutterTwoSpec)

/-- 'halyardlaw12.CutterKeeps', WHERE WHAT IT READS IS OF BULK AT MOST 1048576: true; the input reads as it did. -/
def cutterKeepsUptoRow : OpenClaim := { program := "ytgnbnkoanoalhaa", sum := "ed613c867872d0eb02e92505a3b7d1ad33d668cfbde60c4abf885f199d970fa7", func := "halyard/halyardlaw12.CutterKeeps", spec := "cutterKeeps", unfollowed := true, recurses := true, apart := false, narrowed := true }
def CutterKeepsUptoSaid : Prop := cutterKeepsUptoRow.holds Try.pinned (OpenSpec.upto cutterKeepsSpec)

/-- 'halyardlaw12.CutterNil', WHERE WHAT IT READS IS OF BULK AT MOST 1048576: true; the input reads as it did. -/
def cutterNilUptoRow : OpenClaim := { program := "ytgnbnkoanoalhaa", sum := "ed613c867872d0eb02e92505a3b7d1ad33d668cfbde60c4abf885f199d970fa7", func := "halyard/halyardlaw12.CutterNil", spec := "cutterNil", unfollowed := true, recurses := true, apart := false, narrowed := true }
def CutterNilUptoSaid : Prop := cutterNilUptoRow.holds Try.pinned (OpenSpec.upto cutterNilSpec)

/-- 'halyardlaw12.CutterOwn', WHERE WHAT IT READS IS OF BULK AT MOST 1048576: true; the input reads as it did. -/
def cutterOwnUptoRow : OpenClaim := { program := "ytgnbnkoanoalhaa", sum := "ed613c867872d0eb02e92505a3b7d1ad33d668cfbde60c4abf885f199d970fa7", func := "halyard/halyardlaw12.CutterOwn", spec := "cutterOwn", unfollowed := true, recurses := true, apart := false, narrowed := true }
def CutterOwnUptoSaid : Prop := cutterOwnUptoRow.holds Try.pinned (OpenSpec.upto cutterOwnSpec)

end Rows
end Go.Proofs.Ytgnbnkoanoalhaa
