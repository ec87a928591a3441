/-
  DERIVED. GIVEN WITH THE SEED: THE CARDS: each row of YtiebaefhlacekaaGreatDoorRows.lean that lists a variable, with what it lists TIED to the program's text (the seventh form; the later family's looks); each row that meets fmt, with fmt's text TOLD by the authors' own Lean function (tested against real Go, not proved from fmt's source: count such statements apart). THE CARD IS WHAT COUNTS. Prove the row's statement (the work); the ties are given (YtiebaefhlacekaaGreatDoorTie.lean); close each card by the builder's one call (the guide's Derived/Test/ToyasCard.lean, 'card_holds'). Laid BY PROGRAM, IN A SANDBOX (cutbox-door.mjs). By AI agents, Wed Nov 11 2026. No macro, syntax, notation, axiom, sorry.
-/
import Derived.Test.YtiebaefhlacekaaGreatDoorRows
import GoSem.ClaimSeven
namespace Go.Proofs.YtiebaefhlacekaaGreatDoor
namespace Rows

/-- THE TIED CARD OF 'inkhornlaw16.FilesPlays'. -/
def filesPlaysCard : Claim7 := { stood := { row := filesPlaysRow, standIns := [], harness := (true, "28cdcec83f91e0c6cfcbdacbb46b53291f0b60f30fd3d209a6728de89e12e957"), looks := true }, kinds := [], alts := [], laidByText := true, laidKinds := [.data, .pinned], laidTests := true, laidLooks := .later }
def FilesPlaysCardSaid : Prop := Claim7.holds Tryz.pinned (.plain (OpenSpec.ofChange filesPlaysSpec)) filesPlaysCard

/-- THE SECOND FORM's CARD OF 'inkhornlaw16.FilesPlays'. -/
def filesPlaysUptoCard : Claim7 := { stood := { row := filesPlaysUptoRow, standIns := [], harness := (true, "28cdcec83f91e0c6cfcbdacbb46b53291f0b60f30fd3d209a6728de89e12e957"), looks := true }, kinds := [], alts := [], laidByText := true, laidKinds := [.data, .pinned], laidTests := true, laidLooks := .later }
def FilesPlaysUptoCardSaid : Prop := Claim7.holds Tryz.pinned (.plain (OpenSpec.upto filesPlaysSpec)) filesPlaysUptoCard
end Rows
end Go.Proofs.YtiebaefhlacekaaGreatDoor
