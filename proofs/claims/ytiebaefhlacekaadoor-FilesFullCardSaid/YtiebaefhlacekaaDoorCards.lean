/-
  DERIVED. GIVEN WITH THE SEED: THE CARDS: each row of YtiebaefhlacekaaDoorRows.lean that lists a variable, with what it lists TIED to the program's text (the seventh form; the later family's looks); each row that meets fmt, with fmt's text TOLD by the authors' own Lean function (tested against real Go, not proved from fmt's source: count such statements apart). THE CARD IS WHAT COUNTS. Prove the row's statement (the work); the ties are given (YtiebaefhlacekaaDoorTie.lean); close each card by the builder's one call (the guide's Derived/Test/ToyasCard.lean, 'card_holds'). Laid BY PROGRAM, IN A SANDBOX (cutbox-door.mjs). By AI agents, Wed Nov 11 2026. No macro, syntax, notation, axiom, sorry.
-/
import Derived.Test.YtiebaefhlacekaaDoorRows
import GoSem.ClaimSeven
namespace Go.Proofs.YtiebaefhlacekaaDoor
namespace Rows

/-- THE TIED CARD OF 'inkhornlaw16.FilesNone'. -/
def filesNoneCard : Claim7 := { stood := { row := filesNoneRow, standIns := [], harness := (true, "87e63efdb9b07905241d53a1674625724268ce165d3ef570749cb22e5df88416"), looks := true }, kinds := [], alts := [], laidByText := true, laidKinds := [.data, .pinned], laidTests := true, laidLooks := .later }
def FilesNoneCardSaid : Prop := Claim7.holds Tryd.pinned (.plain (OpenSpec.ofChange filesNoneSpec)) filesNoneCard

/-- THE TIED CARD OF 'inkhornlaw16.FilesLines'. -/
def filesLinesCard : Claim7 := { stood := { row := filesLinesRow, standIns := [], harness := (true, "87e63efdb9b07905241d53a1674625724268ce165d3ef570749cb22e5df88416"), looks := true }, kinds := [], alts := [], laidByText := true, laidKinds := [.data, .pinned], laidTests := true, laidLooks := .later }
def FilesLinesCardSaid : Prop := Claim7.holds Tryd.pinned (.plain (OpenSpec.ofChange filesLinesSpec)) filesLinesCard

/-- THE TIED CARD OF 'inkhornlaw16.FilesBack'. -/
def filesBackCard : Claim7 := { stood := { row := filesBackRow, standIns := [], harness := (true, "87e63efdb9b07905241d53a1674625724268ce165d3ef570749cb22e5df88416"), looks := true }, kinds := [], alts := [], laidByText := true, laidKinds := [.data, .pinned], laidTests := true, laidLooks := .later }
def FilesBackCardSaid : Prop := Claim7.holds Tryd.pinned (.plain (OpenSpec.ofChange filesBackSpec)) filesBackCard

/-- THE TIED CARD OF 'inkhornlaw16.FilesFails'. -/
def filesFailsCard : Claim7 := { stood := { row := filesFailsRow, standIns := [], harness := (true, "87e63efdb9b07905241d53a1674625724268ce165d3ef570749cb22e5df88416"), looks := true }, kinds := [], alts := [], laidByText := true, laidKinds := [.data, .pinned], laidTests := true, laidLooks := .later }
def FilesFailsCardSaid : Prop := Claim7.holds Tryd.pinned (.plain (OpenSpec.ofChange filesFailsSpec)) filesFailsCard

/-- THE TIED CARD OF 'inkhornlaw16.FilesFull'. -/
def filesFullCard : Claim7 := { stood := { row := filesFullRow, standIns := [], harness := (true, "87e63efdb9b07905241d53a1674625724268ce165d3ef570749cb22e5df88416"), looks := true }, kinds := [], alts := [], laidByText := true, laidKinds := [.data, .pinned], laidTests := true, laidLooks := .later }
def FilesFullCardSaid : Prop := Claim7.holds Tryd.pinned (.plain (OpenSpec.ofChange filesFullSpec)) filesFullCard

/-- THE SECOND FORM's CARD OF 'inkhornlaw16.FilesNone'. -/
def filesNoneUptoCard : Claim7 := { stood := { row := filesNoneUptoRow, standIns := [], harness := (true, "87e63efdb9b07905241d53a1674625724268ce165d3ef570749cb22e5df88416"), looks := true }, kinds := [], alts := [], laidByText := true, laidKinds := [.data, .pinned], laidTests := true, laidLooks := .later }
def FilesNoneUptoCardSaid : Prop := Claim7.holds Tryd.pinned (.plain (OpenSpec.upto filesNoneSpec)) filesNoneUptoCard

/-- THE SECOND FORM's CARD OF 'inkhornlaw16.FilesLines'. -/
def filesLinesUptoCard : Claim7 := { stood := { row := filesLinesUptoRow, standIns := [], harness := (true, "87e63efdb9b07905241d53a1674625724268ce165d3ef570749cb22e5df88416"), looks := true }, kinds := [], alts := [], laidByText := true, laidKinds := [.data, .pinned], laidTests := true, laidLooks := .later }
def FilesLinesUptoCardSaid : Prop := Claim7.holds Tryd.pinned (.plain (OpenSpec.upto filesLinesSpec)) filesLinesUptoCard

/-- THE SECOND FORM's CARD OF 'inkhornlaw16.FilesBack'. -/
def filesBackUptoCard : Claim7 := { stood := { row := filesBackUptoRow, standIns := [], harness := (true, "87e63efdb9b07905241d53a1674625724268ce165d3ef570749cb22e5df88416"), looks := true }, kinds := [], alts := [], laidByText := true, laidKinds := [.data, .pinned], laidTests := true, laidLooks := .later }
def FilesBackUptoCardSaid : Prop := Claim7.holds Tryd.pinned (.plain (OpenSpec.upto filesBackSpec)) filesBackUptoCard

/-- THE SECOND FORM's CARD OF 'inkhornlaw16.FilesFails'. -/
def filesFailsUptoCard : Claim7 := { stood := { row := filesFailsUptoRow, standIns := [], harness := (true, "87e63efdb9b07905241d53a1674625724268ce165d3ef570749cb22e5df88416"), looks := true }, kinds := [], alts := [], laidByText := true, laidKinds := [.data, .pinned], laidTests := true, laidLooks := .later }
def FilesFailsUptoCardSaid : Prop := Claim7.holds Tryd.pinned (.plain (OpenSpec.upto filesFailsSpec)) filesFailsUptoCard

/-- THE SECOND FORM's CARD OF 'inkhornlaw16.FilesFull'. -/
def filesFullUptoCard : Claim7 := { stood := { row := filesFullUptoRow, standIns := [], harness := (true, "87e63efdb9b07905241d53a1674625724268ce165d3ef570749cb22e5df88416"), looks := true }, kinds := [], alts := [], laidByText := true, laidKinds := [.data, .pinned], laidTests := true, laidLooks := .later }
def FilesFullUptoCardSaid : Prop := Claim7.holds Tryd.pinned (.plain (OpenSpec.upto filesFullSpec)) filesFullUptoCard
end Rows
end Go.Proofs.YtiebaefhlacekaaDoor
