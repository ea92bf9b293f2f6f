/-
  NARROWER THAN 'FOR EVERY INPUT', by the rows' own cells (each row's printed sentence says how): PduValids: laid · PduDecodes: laid · PduBack: laid · PduBursts: laid · PduOwn: laid · PduSets: laid.
  DERIVED. THE GIVEN ROWS OF THIS SEAT. 6 by the template 'for every input the law returns true; each argument reads behind the call as it read before'; 0 by the template 'total and deterministic' (their statements: YtghjffgaebnhiaaDoorTotals.lean).
  GIVEN WITH THE SEED: the statements are not yours to turn. If you find one false, say at which input.
  Laid BY PROGRAM, IN A SANDBOX (cutbox-rows.mjs): the forced cells as the released guide's own fill.sh prints them over the translation 689c08fb358898d8… (all of the seat's roots in one cut). By AI agents, Wed Nov 11 2026. No macro, syntax, notation, axiom, sorry.
-/
import Derived.Test.YtghjffgaebnhiaaDoorChecked
import GoSem.Claim
import GoSem.ClaimJoined
import GoSem.ClaimMapViews
import Derived.JoinedTies
import Derived.KernelRfl
namespace Go.Proofs.YtghjffgaebnhiaaDoor
/- THE CELL 'sum', in the pinned program and in every row, IS THE sha256 OF THE DUMP (.gsa) THAT YtghjffgaebnhiaaDoorProg.lean LOADS. Nothing in Lean hashes anything: it is a label: what it is worth is what the hold of that sum in a sandbox is worth. -/
noncomputable def Tryd.pinned : Pinned := { name := "ytghjffgaebnhiaadoor", sum := "689c08fb358898d86ee24f7f17a381a9d551662c238ef0fce648a306dfd5732a", checked := Tryd.checked }
namespace Rows
def none {H : Type} : Left H := { results := [], args := [] }

/- WHAT THE LISTED PACKAGE-LEVEL VARIABLES READ AS WHEN THE CALL BEGINS. Each datum BY PROGRAM (the guide's laid-datum.mjs) off the statement by which the dump's own 'gosem.cut.vars' lays the variable. In a bare row this is a premise. The card (YtghjffgaebnhiaaDoorCards.lean) ties it to the program's text. -/
def laid_halyard_octet_table {H : Type} : DataW H := .agg [.lit (.int .u32 0), .lit (.int .u32 498536548), .lit (.int .u32 997073096), .lit (.int .u32 651767980), .lit (.int .u32 1994146192), .lit (.int .u32 1802195444), .lit (.int .u32 1303535960), .lit (.int .u32 1342533948), .lit (.int .u32 3988292384), .lit (.int .u32 4027552580), .lit (.int .u32 3604390888), .lit (.int .u32 3412177804), .lit (.int .u32 2607071920), .lit (.int .u32 2262029012), .lit (.int .u32 2685067896), .lit (.int .u32 3183342108)]

/-- 'halyardlaw03.PduValids': WHATEVER THE INPUT: true; the input reads as it did. -/
def pduValidsSpec : ChangeSpec := { name := "pduValids", fn := fun _ => fun
  | [d] => { results := [.lit (.bool true)], args := [d] }
  | _ => none }
def pduValidsRow : OpenClaim := { program := "ytghjffgaebnhiaadoor", sum := "689c08fb358898d86ee24f7f17a381a9d551662c238ef0fce648a306dfd5732a", func := "halyard/halyardlaw03.PduValids", spec := "pduValids", unfollowed := true, recurses := true, named := ["halyard/octet.table"], apart := false, laid := [("halyard/octet.table", laid_halyard_octet_table)] }
def PduValidsSaid : Prop := pduValidsRow.holds Tryd.pinned (OpenSpec.ofChange pduValidsSpec)

/-- ITS FALSE NEIGHBOUR: 'it returns false'. Refute it at one input. -/
def pduValidsWrong : ChangeSpec := { name := "pduValids", fn := fun _ => fun
  | [d] => { results := [.lit (.bool false)], args := [d] }
  | _ => none }
def PduValidsWrongFalsely : Prop := pduValidsRow.holds Tryd.pinned (OpenSpec.ofChange pduValidsWrong)

/-- 'halyardlaw03.PduDecodes': WHATEVER THE INPUT: true; the input reads as it did. -/
def pduDecodesSpec : ChangeSpec := { name := "pduDecodes", fn := fun _ => fun
  | [d] => { results := [.lit (.bool true)], args := [d] }
  | _ => none }
def pduDecodesRow : OpenClaim := { program := "ytghjffgaebnhiaadoor", sum := "689c08fb358898d86ee24f7f17a381a9d551662c238ef0fce648a306dfd5732a", func := "halyard/halyardlaw03.PduDecodes", spec := "pduDecodes", unfollowed := true, recurses := true, named := ["halyard/octet.table"], apart := false, laid := [("halyard/octet.table", laid_halyard_octet_table)] }
def PduDecodesSaid : Prop := pduDecodesRow.holds Tryd.pinned (OpenSpec.ofChange pduDecodesSpec)

/-- ITS FALSE NEIGHBOUR: 'it returns false'. Refute it at one input. -/
def pduDecodesWrong : ChangeSpec := { name := "pduDecodes", fn := fun _ => fun
  | [d] => { results := [.lit (.bool false)], args := [d] }
  | _ => none }
def PduDecodesWrongFalsely : Prop := pduDecodesRow.holds Tryd.pinned (OpenSpec.ofChange pduDecodesWrong)

/-- 'halyardlaw03.PduBack': WHATEVER THE INPUT: true; the input reads as it did. -/
def pduBackSpec : ChangeSpec := { name := "pduBack", fn := fun _ => fun
  | [d1, d2] => { results := [.lit (.bool true)], args := [d1, d2] }
  | _ => none }
def pduBackRow : OpenClaim := { program := "ytghjffgaebnhiaadoor", sum := "689c08fb358898d86ee24f7f17a381a9d551662c238ef0fce648a306dfd5732a", func := "halyard/halyardlaw03.PduBack", spec := "pduBack", unfollowed := true, recurses := true, named := ["halyard/octet.table"], apart := false, laid := [("halyard/octet.table", laid_halyard_octet_table)] }
def PduBackSaid : Prop := pduBackRow.holds Tryd.pinned (OpenSpec.ofChange pduBackSpec)

/-- ITS FALSE NEIGHBOUR: 'it returns false'. Refute it at one input. -/
def pduBackWrong : ChangeSpec := { name := "pduBack", fn := fun _ => fun
  | [d1, d2] => { results := [.lit (.bool false)], args := [d1, d2] }
  | _ => none }
def PduBackWrongFalsely : Prop := pduBackRow.holds Tryd.pinned (OpenSpec.ofChange pduBackWrong)

/-- 'halyardlaw03.PduBursts': WHATEVER THE INPUT: true; the input reads as it did. -/
def pduBurstsSpec : ChangeSpec := { name := "pduBursts", fn := fun _ => fun
  | [d1, d2, d3] => { results := [.lit (.bool true)], args := [d1, d2, d3] }
  | _ => none }
def pduBurstsRow : OpenClaim := { program := "ytghjffgaebnhiaadoor", sum := "689c08fb358898d86ee24f7f17a381a9d551662c238ef0fce648a306dfd5732a", func := "halyard/halyardlaw03.PduBursts", spec := "pduBursts", unfollowed := true, recurses := true, named := ["halyard/octet.table"], apart := false, laid := [("halyard/octet.table", laid_halyard_octet_table)] }
def PduBurstsSaid : Prop := pduBurstsRow.holds Tryd.pinned (OpenSpec.ofChange pduBurstsSpec)

/-- ITS FALSE NEIGHBOUR: 'it returns false'. Refute it at one input. -/
def pduBurstsWrong : ChangeSpec := { name := "pduBursts", fn := fun _ => fun
  | [d1, d2, d3] => { results := [.lit (.bool false)], args := [d1, d2, d3] }
  | _ => none }
def PduBurstsWrongFalsely : Prop := pduBurstsRow.holds Tryd.pinned (OpenSpec.ofChange pduBurstsWrong)

/-- 'halyardlaw03.PduOwn': WHATEVER THE INPUT: true; the input reads as it did. -/
def pduOwnSpec : ChangeSpec := { name := "pduOwn", fn := fun _ => fun
  | [d1, d2, d3] => { results := [.lit (.bool true)], args := [d1, d2, d3] }
  | _ => none }
def pduOwnRow : OpenClaim := { program := "ytghjffgaebnhiaadoor", sum := "689c08fb358898d86ee24f7f17a381a9d551662c238ef0fce648a306dfd5732a", func := "halyard/halyardlaw03.PduOwn", spec := "pduOwn", unfollowed := true, recurses := true, named := ["halyard/octet.table"], apart := false, laid := [("halyard/octet.table", laid_halyard_octet_table)] }
def PduOwnSaid : Prop := pduOwnRow.holds Tryd.pinned (OpenSpec.ofChange pduOwnSpec)

/-- ITS FALSE NEIGHBOUR: 'it returns false'. Refute it at one input. -/
def pduOwnWrong : ChangeSpec := { name := "pduOwn", fn := fun _ => fun
  | [d1, d2, d3] => { results := [.lit (.bool false)], args := [d1, d2, d3] }
  | _ => none }
def PduOwnWrongFalsely : Prop := pduOwnRow.holds Tryd.pinned (OpenSpec.ofChange pduOwnWrong)

/-- 'halyardlaw03.PduSets': WHATEVER THE INPUT: true; the input reads as it did. -/
def pduSetsSpec : ChangeSpec := { name := "pduSets", fn := fun _ => fun
  | [d1, d2, d3, d4] => { results := [.lit (.bool true)], args := [d1, d2, d3, d4] }
  | _ => none }
def pduSetsRow : OpenClaim := { program := "ytghjffgaebnhiaadoor", sum := "689c08fb358898d86ee24f7f17a381a9d551662c238ef0fce648a306dfd5732a", func := "halyard/halyardlaw03.PduSets", spec := "pduSets", unfollowed := true, recurses := true, named := ["halyard/octet.table"], apart := false, laid := [("halyard/octet.table", laid_halyard_octet_table)] }
def PduSetsSaid : Prop := pduSetsRow.holds Tryd.pinned (OpenSpec.ofChange pduSetsSpec)

/-- ITS FALSE NEIGHBOUR: 'it returns false'. Refute it at one input. -/
def pduSetsWrong : ChangeSpec := { name := "pduSets", fn := fun _ => fun
  | [d1, d2, d3, d4] => { results := [.lit (.bool false)], args := [d1, d2, d3, d4] }
  | _ => none }
def PduSetsWrongFalsely : Prop := pduSetsRow.holds Tryd.pinned (OpenSpec.ofChange pduSetsWrong)

/- THE SECOND FORM. 'bulk': how many values and letters a reading holds, each counted each time it is reached (what is shared counts as often as it is met; a slice's spare places count too). A statement '..UptoSaid' is the law's where the arguments, and the package variables that the reading takes, are together of bulk at most 1048576: NARROWER than '..Said'. Prove '..Said' where nothing that the law and all that it calls make is longer than what came in: it says more and counts as full. Else prove '..UptoSaid'. A law counts once. -/
mutual
def uptoBulk {H : Type} : DataW H → Nat
  | .lit (.string bytes) => bytes.length + 1
  | .lit _ => 1
  | .nil => 1
  | .ptr d => uptoBulk d + 1
  | .slice elems spare => uptoBulkAll elems + uptoBulkAll spare + 1
  | .agg parts => uptoBulkAll parts + 1
  | .iface _ d => uptoBulk d + 1
  | .map entries => uptoBulkEntries entries + 1
  | .held _ => 1
def uptoBulkAll {H : Type} : List (DataW H) → Nat
  | [] => 0
  | d :: r => uptoBulk d + uptoBulkAll r
def uptoBulkEntries {H : Type} : List (Lit × DataW H) → Nat
  | [] => 0
  | x :: r => uptoBulkEntry x + uptoBulkEntries r
def uptoBulkEntry {H : Type} : Lit × DataW H → Nat
  | (.string bytes, d) => bytes.length + uptoBulk d + 1
  | (_, d) => uptoBulk d + 1
 end
def uptoSmall : (H : Type) → List (DataW H) → Bool := fun _ ds => decide (uptoBulkAll ds ≤ 1048576)
def OpenSpec.upto (s : _root_.Go.ChangeSpec) : _root_.Go.OpenSpec := { _root_.Go.OpenSpec.ofChange s with cond := some uptoSmall }

/-- 'halyardlaw03.PduValids', WHERE WHAT IT READS IS OF BULK AT MOST 1048576: true; the input reads as it did. -/
def pduValidsUptoRow : OpenClaim := { program := "ytghjffgaebnhiaadoor", sum := "689c08fb358898d86ee24f7f17a381a9d551662c238ef0fce648a306dfd5732a", func := "halyard/halyardlaw03.PduValids", spec := "pduValids", unfollowed := true, recurses := true, named := ["halyard/octet.table"], apart := false, laid := [("halyard/octet.table", laid_halyard_octet_table)], narrowed := true }
def PduValidsUptoSaid : Prop := pduValidsUptoRow.holds Tryd.pinned (OpenSpec.upto pduValidsSpec)

/-- 'halyardlaw03.PduDecodes', WHERE WHAT IT READS IS OF BULK AT MOST 1048576: true; the input reads as it did. -/
def pduDecodesUptoRow : OpenClaim := { program := "ytghjffgaebnhiaadoor", sum := "689c08fb358898d86ee24f7f17a381a9d551662c238ef0fce648a306dfd5732a", func := "halyard/halyardlaw03.PduDecodes", spec := "pduDecodes", unfollowed := true, recurses := true, named := ["halyard/octet.table"], apart := false, laid := [("halyard/octet.table", laid_halyard_octet_table)], narrowed := true }
def PduDecodesUptoSaid : Prop := pduDecodesUptoRow.holds Tryd.pinned (OpenSpec.upto pduDecodesSpec)

/-- 'halyardlaw03.PduBack', WHERE WHAT IT READS IS OF BULK AT MOST 1048576: true; the input reads as it did. -/
def pduBackUptoRow : OpenClaim := { program := "ytghjffgaebnhiaadoor", sum := "689c08fb358898d86ee24f7f17a381a9d551662c238ef0fce648a306dfd5732a", func := "halyard/halyardlaw03.PduBack", spec := "pduBack", unfollowed := true, recurses := true, named := ["halyard/octet.table"], apart := false, laid := [("halyard/octet.table", laid_halyard_octet_table)], narrowed := true }
def PduBackUptoSaid : Prop := pduBackUptoRow.holds Tryd.pinned (OpenSpec.upto pduBackSpec)

/-- 'halyardlaw03.PduBursts', WHERE WHAT IT READS IS OF BULK AT MOST 1048576: true; the input reads as it did. -/
def pduBurstsUptoRow : OpenClaim := { program := "ytghjffgaebnhiaadoor", sum := "689c08fb358898d86ee24f7f17a381a9d551662c238ef0fce648a306dfd5732a", func := "halyard/halyardlaw03.PduBursts", spec := "pduBursts", unfollowed := true, recurses := true, named := ["halyard/octet.table"], apart := false, laid := [("halyard/octet.table", laid_halyard_octet_table)], narrowed := true }
def PduBurstsUptoSaid : Prop := pduBurstsUptoRow.holds Tryd.pinned (OpenSpec.upto pduBurstsSpec)

/-- 'halyardlaw03.PduOwn', WHERE WHAT IT READS IS OF BULK AT MOST 1048576: true; the input reads as it did. -/
def pduOwnUptoRow : OpenClaim := { program := "ytghjffgaebnhiaadoor", sum := "689c08fb358898d86ee24f7f17a381a9d551662c238ef0fce648a306dfd5732a", func := "halyard/halyardlaw03.PduOwn", spec := "pduOwn", unfollowed := true, recurses := true, named := ["halyard/octet.table"], apart := false, laid := [("halyard/octet.table", laid_halyard_octet_table)], narrowed := true }
def PduOwnUptoSaid : Prop := pduOwnUptoRow.holds Tryd.pinned (OpenSpec.upto pduOwnSpec)

/-- 'halyardlaw03.PduSets', WHERE WHAT IT READS IS OF BULK AT MOST 1048576: true; the input reads as it did. -/
def pduSetsUptoRow : OpenClaim := { program := "ytghjffgaebnhiaadoor", sum := "689c08fb358898d86ee24f7f17a381a9d551662c238ef0fce648a306dfd5732a", func := "halyard/halyardlaw03.PduSets", spec := "pduSets", unfollowed := true, recurses := true, named := ["halyard/octet.table"], apart := false, laid := [("halyard/octet.table", laid_halyard_octet_table)], narrowed := true }
def PduSetsUptoSaid : Prop := pduSetsUptoRow.holds Tryd.pinned (OpenSpec.upto pduSetsSpec)

end Rows
end Go.Proofs.YtghjffgaebnhiaaDoor
