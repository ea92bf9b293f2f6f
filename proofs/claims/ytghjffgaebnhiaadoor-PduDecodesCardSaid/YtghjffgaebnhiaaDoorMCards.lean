/-
  DERIVED. GIVEN WITH THE SEED: THE CARDS: each row of YtghjffgaebnhiaaDoorRows.lean that lists a variable, with what it lists TIED to the program's text (the seventh form; the later family's looks); each row that meets fmt, with fmt's text TOLD by the authors' own Lean function (tested against real Go, not proved from fmt's source: count such statements apart). THE CARD IS WHAT COUNTS. Prove the row's statement (the work); the ties are given (YtghjffgaebnhiaaDoorTie.lean); close each card by the builder's one call (the guide's Derived/Test/ToyasCard.lean, 'card_holds'). Laid BY PROGRAM, IN A SANDBOX (cutbox-door.mjs). By AI agents, Wed Nov 11 2026. No macro, syntax, notation, axiom, sorry.
-/
import Derived.Test.YtghjffgaebnhiaaDoorRows
import GoSem.ClaimSeven
namespace Go.Proofs.YtghjffgaebnhiaaDoor
namespace Rows

/-- THE TIED CARD OF 'halyardlaw03.PduValids'. -/
def pduValidsCard : Claim7 := { stood := { row := pduValidsRow, standIns := [], harness := (true, "37c720c899debd8e3748ba56f2c6549877feaeec1adae344c6be4e8c9844ef0f"), looks := false }, kinds := [], alts := [], laidByText := true, laidKinds := [.data], laidTests := true, laidLooks := .later }
def PduValidsCardSaid : Prop := Claim7.holds Tryd.pinned (.plain (OpenSpec.ofChange pduValidsSpec)) pduValidsCard

/-- THE TIED CARD OF 'halyardlaw03.PduDecodes'. -/
def pduDecodesCard : Claim7 := { stood := { row := pduDecodesRow, standIns := [], harness := (true, "37c720c899debd8e3748ba56f2c6549877feaeec1adae344c6be4e8c9844ef0f"), looks := false }, kinds := [], alts := [], laidByText := true, laidKinds := [.data], laidTests := true, laidLooks := .later }
def PduDecodesCardSaid : Prop := Claim7.holds Tryd.pinned (.plain (OpenSpec.ofChange pduDecodesSpec)) pduDecodesCard

/-- THE TIED CARD OF 'halyardlaw03.PduBack'. -/
def pduBackCard : Claim7 := { stood := { row := pduBackRow, standIns := [], harness := (true, "37c720c899debd8e3748ba56f2c6549877feaeec1adae344c6be4e8c9844ef0f"), looks := false }, kinds := [], alts := [], laidByText := true, laidKinds := [.data], laidTests := true, laidLooks := .later }
def PduBackCardSaid : Prop := Claim7.holds Tryd.pinned (.plain (OpenSpec.ofChange pduBackSpec)) pduBackCard

/-- THE TIED CARD OF 'halyardlaw03.PduBursts'. -/
def pduBurstsCard : Claim7 := { stood := { row := pduBurstsRow, standIns := [], harness := (true, "37c720c899debd8e3748ba56f2c6549877feaeec1adae344c6be4e8c9844ef0f"), looks := false }, kinds := [], alts := [], laidByText := true, laidKinds := [.data], laidTests := true, laidLooks := .later }
def PduBurstsCardSaid : Prop := Claim7.holds Tryd.pinned (.plain (OpenSpec.ofChange pduBurstsSpec)) pduBurstsCard

/-- THE TIED CARD OF 'halyardlaw03.PduOwn'. -/
def pduOwnCard : Claim7 := { stood := { row := pduOwnRow, standIns := [], harness := (true, "37c720c899debd8e3748ba56f2c6549877feaeec1adae344c6be4e8c9844ef0f"), looks := false }, kinds := [], alts := [], laidByText := true, laidKinds := [.data], laidTests := true, laidLooks := .later }
def PduOwnCardSaid : Prop := Claim7.holds Tryd.pinned (.plain (OpenSpec.ofChange pduOwnSpec)) pduOwnCard

/-- THE TIED CARD OF 'halyardlaw03.PduSets'. -/
def pduSetsCard : Claim7 := { stood := { row := pduSetsRow, standIns := [], harness := (true, "37c720c899debd8e3748ba56f2c6549877feaeec1adae344c6be4e8c9844ef0f"), looks := false }, kinds := [], alts := [], laidByText := true, laidKinds := [.data], laidTests := true, laidLooks := .later }
def PduSetsCardSaid : Prop := Claim7.holds Tryd.pinned (.plain (OpenSpec.ofChange pduSetsSpec)) pduSetsCard

/-- THE SECOND FORM's CARD OF 'halyardlaw03.PduValids'. -/
def pduValidsUptoCard : Claim7 := { stood := { row := pduValidsUptoRow, standIns := [], harness := (true, "37c720c899debd8e3748ba56f2c6549877feaeec1adae344c6be4e8c9844ef0f"), looks := false }, kinds := [], alts := [], laidByText := true, laidKinds := [.data], laidTests := true, laidLooks := .later }
def PduValidsUptoCardSaid : Prop := Claim7.holds Tryd.pinned (.plain (OpenSpec.upto pduValidsSpec)) pduValidsUptoCard

/-- THE SECOND FORM's CARD OF 'halyardlaw03.PduDecodes'. -/
def pduDecodesUptoCard : Claim7 := { stood := { row := pduDecodesUptoRow, standIns := [], harness := (true, "37c720c899debd8e3748ba56f2c6549877feaeec1adae344c6be4e8c9844ef0f"), looks := false }, kinds := [], alts := [], laidByText := true, laidKinds := [.data], laidTests := true, laidLooks := .later }
def PduDecodesUptoCardSaid : Prop := Claim7.holds Tryd.pinned (.plain (OpenSpec.upto pduDecodesSpec)) pduDecodesUptoCard

/-- THE SECOND FORM's CARD OF 'halyardlaw03.PduBack'. -/
def pduBackUptoCard : Claim7 := { stood := { row := pduBackUptoRow, standIns := [], harness := (true, "37c720c899debd8e3748ba56f2c6549877feaeec1adae344c6be4e8c9844ef0f"), looks := false }, kinds := [], alts := [], laidByText := true, laidKinds := [.data], laidTests := true, laidLooks := .later }
def PduBackUptoCardSaid : Prop := Claim7.holds Tryd.pinned (.plain (OpenSpec.upto pduBackSpec)) pduBackUptoCard

/-- THE SECOND FORM's CARD OF 'halyardlaw03.PduBursts'. -/
def pduBurstsUptoCard : Claim7 := { stood := { row := pduBurstsUptoRow, standIns := [], harness := (true, "37c720c899debd8e3748ba56f2c6549877feaeec1adae344c6be4e8c9844ef0f"), looks := false }, kinds := [], alts := [], laidByText := true, laidKinds := [.data], laidTests := true, laidLooks := .later }
def PduBurstsUptoCardSaid : Prop := Claim7.holds Tryd.pinned (.plain (OpenSpec.upto pduBurstsSpec)) pduBurstsUptoCard

/-- THE SECOND FORM's CARD OF 'halyardlaw03.PduOwn'. -/
def pduOwnUptoCard : Claim7 := { stood := { row := pduOwnUptoRow, standIns := [], harness := (true, "37c720c899debd8e3748ba56f2c6549877feaeec1adae344c6be4e8c9844ef0f"), looks := false }, kinds := [], alts := [], laidByText := true, laidKinds := [.data], laidTests := true, laidLooks := .later }
def PduOwnUptoCardSaid : Prop := Claim7.holds Tryd.pinned (.plain (OpenSpec.upto pduOwnSpec)) pduOwnUptoCard

/-- THE SECOND FORM's CARD OF 'halyardlaw03.PduSets'. -/
def pduSetsUptoCard : Claim7 := { stood := { row := pduSetsUptoRow, standIns := [], harness := (true, "37c720c899debd8e3748ba56f2c6549877feaeec1adae344c6be4e8c9844ef0f"), looks := false }, kinds := [], alts := [], laidByText := true, laidKinds := [.data], laidTests := true, laidLooks := .later }
def PduSetsUptoCardSaid : Prop := Claim7.holds Tryd.pinned (.plain (OpenSpec.upto pduSetsSpec)) pduSetsUptoCard
end Rows
end Go.Proofs.YtghjffgaebnhiaaDoor
