/-
  DERIVED. GIVEN WITH THE SEED: THE CARDS: each row of YtmjdebeikcogkaaDoorRows.lean that lists a variable, with what it lists TIED to the program's text (the seventh form; the later family's looks); each row that meets fmt, with fmt's text TOLD by the authors' own Lean function (tested against real Go, not proved from fmt's source: count such statements apart). THE CARD IS WHAT COUNTS. Prove the row's statement (the work); the ties are given (YtmjdebeikcogkaaDoorTie.lean); close each card by the builder's one call (the guide's Derived/Test/ToyasCard.lean, 'card_holds'). Laid BY PROGRAM, IN A SANDBOX (cutbox-door.mjs). By AI agents, Wed Nov 11 2026. No macro, syntax, notation, axiom, sorry.
-/
import Derived.Test.YtmjdebeikcogkaaDoorRows
import GoSem.ClaimSeven
namespace Go.Proofs.YtmjdebeikcogkaaDoor
namespace Rows

/-- THE TIED CARD OF 'inkhornlaw19.ViewRows'. -/
def viewRowsCard : Claim7 := { stood := { row := viewRowsRow, standIns := [], harness := (true, "f2c85b533f8ee3a18358c8705d0c9d0dbb78b5f03c8f40b9e76d85d8b0bceeb3"), looks := false }, kinds := [], alts := [], laidByText := true, laidKinds := [.data], laidTests := true, laidLooks := .later }
def ViewRowsCardSaid : Prop := Claim7.holds Tryd.pinned (.plain (OpenSpec.ofChange viewRowsSpec)) viewRowsCard

/-- THE TIED CARD OF 'inkhornlaw19.ViewFinds'. -/
def viewFindsCard : Claim7 := { stood := { row := viewFindsRow, standIns := [], harness := (true, "f2c85b533f8ee3a18358c8705d0c9d0dbb78b5f03c8f40b9e76d85d8b0bceeb3"), looks := false }, kinds := [], alts := [], laidByText := true, laidKinds := [.data], laidTests := true, laidLooks := .later }
def ViewFindsCardSaid : Prop := Claim7.holds Tryd.pinned (.plain (OpenSpec.ofChange viewFindsSpec)) viewFindsCard

/-- THE TIED CARD OF 'inkhornlaw19.ViewWhole'. -/
def viewWholeCard : Claim7 := { stood := { row := viewWholeRow, standIns := [], harness := (true, "f2c85b533f8ee3a18358c8705d0c9d0dbb78b5f03c8f40b9e76d85d8b0bceeb3"), looks := false }, kinds := [], alts := [], laidByText := true, laidKinds := [.data], laidTests := true, laidLooks := .later }
def ViewWholeCardSaid : Prop := Claim7.holds Tryd.pinned (.plain (OpenSpec.ofChange viewWholeSpec)) viewWholeCard

/-- THE TIED CARD OF 'inkhornlaw19.ViewKeeps'. -/
def viewKeepsCard : Claim7 := { stood := { row := viewKeepsRow, standIns := [], harness := (true, "f2c85b533f8ee3a18358c8705d0c9d0dbb78b5f03c8f40b9e76d85d8b0bceeb3"), looks := false }, kinds := [], alts := [], laidByText := true, laidKinds := [.data], laidTests := true, laidLooks := .later }
def ViewKeepsCardSaid : Prop := Claim7.holds Tryd.pinned (.plain (OpenSpec.ofChange viewKeepsSpec)) viewKeepsCard

/-- THE TIED CARD OF 'inkhornlaw19.ViewLefts'. -/
def viewLeftsCard : Claim7 := { stood := { row := viewLeftsRow, standIns := [], harness := (true, "f2c85b533f8ee3a18358c8705d0c9d0dbb78b5f03c8f40b9e76d85d8b0bceeb3"), looks := false }, kinds := [], alts := [], laidByText := true, laidKinds := [.data], laidTests := true, laidLooks := .later }
def ViewLeftsCardSaid : Prop := Claim7.holds Tryd.pinned (.plain (OpenSpec.ofChange viewLeftsSpec)) viewLeftsCard

/-- THE TIED CARD OF 'inkhornlaw19.ViewShows'. -/
def viewShowsCard : Claim7 := { stood := { row := viewShowsRow, standIns := [], harness := (true, "f2c85b533f8ee3a18358c8705d0c9d0dbb78b5f03c8f40b9e76d85d8b0bceeb3"), looks := false }, kinds := [], alts := [], laidByText := true, laidKinds := [.data], laidTests := true, laidLooks := .later }
def ViewShowsCardSaid : Prop := Claim7.holds Tryd.pinned (.plain (OpenSpec.ofChange viewShowsSpec)) viewShowsCard

/-- THE SECOND FORM's CARD OF 'inkhornlaw19.ViewRows'. -/
def viewRowsUptoCard : Claim7 := { stood := { row := viewRowsUptoRow, standIns := [], harness := (true, "f2c85b533f8ee3a18358c8705d0c9d0dbb78b5f03c8f40b9e76d85d8b0bceeb3"), looks := false }, kinds := [], alts := [], laidByText := true, laidKinds := [.data], laidTests := true, laidLooks := .later }
def ViewRowsUptoCardSaid : Prop := Claim7.holds Tryd.pinned (.plain (OpenSpec.upto viewRowsSpec)) viewRowsUptoCard

/-- THE SECOND FORM's CARD OF 'inkhornlaw19.ViewFinds'. -/
def viewFindsUptoCard : Claim7 := { stood := { row := viewFindsUptoRow, standIns := [], harness := (true, "f2c85b533f8ee3a18358c8705d0c9d0dbb78b5f03c8f40b9e76d85d8b0bceeb3"), looks := false }, kinds := [], alts := [], laidByText := true, laidKinds := [.data], laidTests := true, laidLooks := .later }
def ViewFindsUptoCardSaid : Prop := Claim7.holds Tryd.pinned (.plain (OpenSpec.upto viewFindsSpec)) viewFindsUptoCard

/-- THE SECOND FORM's CARD OF 'inkhornlaw19.ViewWhole'. -/
def viewWholeUptoCard : Claim7 := { stood := { row := viewWholeUptoRow, standIns := [], harness := (true, "f2c85b533f8ee3a18358c8705d0c9d0dbb78b5f03c8f40b9e76d85d8b0bceeb3"), looks := false }, kinds := [], alts := [], laidByText := true, laidKinds := [.data], laidTests := true, laidLooks := .later }
def ViewWholeUptoCardSaid : Prop := Claim7.holds Tryd.pinned (.plain (OpenSpec.upto viewWholeSpec)) viewWholeUptoCard

/-- THE SECOND FORM's CARD OF 'inkhornlaw19.ViewKeeps'. -/
def viewKeepsUptoCard : Claim7 := { stood := { row := viewKeepsUptoRow, standIns := [], harness := (true, "f2c85b533f8ee3a18358c8705d0c9d0dbb78b5f03c8f40b9e76d85d8b0bceeb3"), looks := false }, kinds := [], alts := [], laidByText := true, laidKinds := [.data], laidTests := true, laidLooks := .later }
def ViewKeepsUptoCardSaid : Prop := Claim7.holds Tryd.pinned (.plain (OpenSpec.upto viewKeepsSpec)) viewKeepsUptoCard

/-- THE SECOND FORM's CARD OF 'inkhornlaw19.ViewLefts'. -/
def viewLeftsUptoCard : Claim7 := { stood := { row := viewLeftsUptoRow, standIns := [], harness := (true, "f2c85b533f8ee3a18358c8705d0c9d0dbb78b5f03c8f40b9e76d85d8b0bceeb3"), looks := false }, kinds := [], alts := [], laidByText := true, laidKinds := [.data], laidTests := true, laidLooks := .later }
def ViewLeftsUptoCardSaid : Prop := Claim7.holds Tryd.pinned (.plain (OpenSpec.upto viewLeftsSpec)) viewLeftsUptoCard

/-- THE SECOND FORM's CARD OF 'inkhornlaw19.ViewShows'. -/
def viewShowsUptoCard : Claim7 := { stood := { row := viewShowsUptoRow, standIns := [], harness := (true, "f2c85b533f8ee3a18358c8705d0c9d0dbb78b5f03c8f40b9e76d85d8b0bceeb3"), looks := false }, kinds := [], alts := [], laidByText := true, laidKinds := [.data], laidTests := true, laidLooks := .later }
def ViewShowsUptoCardSaid : Prop := Claim7.holds Tryd.pinned (.plain (OpenSpec.upto viewShowsSpec)) viewShowsUptoCard
end Rows
end Go.Proofs.YtmjdebeikcogkaaDoor
