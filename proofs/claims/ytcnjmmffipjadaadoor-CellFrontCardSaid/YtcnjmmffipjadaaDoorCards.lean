/-
  DERIVED. GIVEN WITH THE SEED: THE CARDS: each row of YtcnjmmffipjadaaDoorRows.lean that lists a variable, with what it lists TIED to the program's text (the seventh form; the later family's looks); each row that meets fmt, with fmt's text TOLD by the authors' own Lean function (tested against real Go, not proved from fmt's source: count such statements apart). THE CARD IS WHAT COUNTS. Prove the row's statement (the work); the ties are given (YtcnjmmffipjadaaDoorTie.lean); close each card by the builder's one call (the guide's Derived/Test/ToyasCard.lean, 'card_holds'). Laid BY PROGRAM, IN A SANDBOX (cutbox-door.mjs). By AI agents, Wed Nov 11 2026. No macro, syntax, notation, axiom, sorry.
-/
import Derived.Test.YtcnjmmffipjadaaDoorRows
import GoSem.ClaimSeven
namespace Go.Proofs.YtcnjmmffipjadaaDoor
namespace Rows

/-- THE TIED CARD OF 'inkhornlaw02.CellWidths'. -/
def cellWidthsCard : Claim7 := { stood := { row := cellWidthsRow, standIns := [], harness := (true, "f28dbadd666c750c94aebce59970b64730948587571bd2e1c9f092b17767a089"), looks := false }, kinds := [], alts := [], laidByText := true, laidKinds := [.data], laidTests := true, laidLooks := .later }
def CellWidthsCardSaid : Prop := Claim7.holds Tryd.pinned (.plain (OpenSpec.ofChange cellWidthsSpec)) cellWidthsCard

/-- THE TIED CARD OF 'inkhornlaw02.CellPlaces'. -/
def cellPlacesCard : Claim7 := { stood := { row := cellPlacesRow, standIns := [], harness := (true, "f28dbadd666c750c94aebce59970b64730948587571bd2e1c9f092b17767a089"), looks := false }, kinds := [], alts := [], laidByText := true, laidKinds := [.data], laidTests := true, laidLooks := .later }
def CellPlacesCardSaid : Prop := Claim7.holds Tryd.pinned (.plain (OpenSpec.ofChange cellPlacesSpec)) cellPlacesCard

/-- THE TIED CARD OF 'inkhornlaw02.CellTabs'. -/
def cellTabsCard : Claim7 := { stood := { row := cellTabsRow, standIns := [], harness := (true, "f28dbadd666c750c94aebce59970b64730948587571bd2e1c9f092b17767a089"), looks := false }, kinds := [], alts := [], laidByText := true, laidKinds := [.data], laidTests := true, laidLooks := .later }
def CellTabsCardSaid : Prop := Claim7.holds Tryd.pinned (.plain (OpenSpec.ofChange cellTabsSpec)) cellTabsCard

/-- THE TIED CARD OF 'inkhornlaw02.CellFront'. -/
def cellFrontCard : Claim7 := { stood := { row := cellFrontRow, standIns := [], harness := (true, "f28dbadd666c750c94aebce59970b64730948587571bd2e1c9f092b17767a089"), looks := false }, kinds := [], alts := [], laidByText := true, laidKinds := [.data], laidTests := true, laidLooks := .later }
def CellFrontCardSaid : Prop := Claim7.holds Tryd.pinned (.plain (OpenSpec.ofChange cellFrontSpec)) cellFrontCard

/-- THE TIED CARD OF 'inkhornlaw02.CellUnits'. -/
def cellUnitsCard : Claim7 := { stood := { row := cellUnitsRow, standIns := [], harness := (true, "f28dbadd666c750c94aebce59970b64730948587571bd2e1c9f092b17767a089"), looks := false }, kinds := [], alts := [], laidByText := true, laidKinds := [.data], laidTests := true, laidLooks := .later }
def CellUnitsCardSaid : Prop := Claim7.holds Tryd.pinned (.plain (OpenSpec.ofChange cellUnitsSpec)) cellUnitsCard

/-- THE TIED CARD OF 'inkhornlaw02.CellParts'. -/
def cellPartsCard : Claim7 := { stood := { row := cellPartsRow, standIns := [], harness := (true, "f28dbadd666c750c94aebce59970b64730948587571bd2e1c9f092b17767a089"), looks := false }, kinds := [], alts := [], laidByText := true, laidKinds := [.data], laidTests := true, laidLooks := .later }
def CellPartsCardSaid : Prop := Claim7.holds Tryd.pinned (.plain (OpenSpec.ofChange cellPartsSpec)) cellPartsCard

/-- THE TIED CARD OF 'inkhornlaw02.CellBack'. -/
def cellBackCard : Claim7 := { stood := { row := cellBackRow, standIns := [], harness := (true, "f28dbadd666c750c94aebce59970b64730948587571bd2e1c9f092b17767a089"), looks := false }, kinds := [], alts := [], laidByText := true, laidKinds := [.data], laidTests := true, laidLooks := .later }
def CellBackCardSaid : Prop := Claim7.holds Tryd.pinned (.plain (OpenSpec.ofChange cellBackSpec)) cellBackCard

/-- THE SECOND FORM's CARD OF 'inkhornlaw02.CellWidths'. -/
def cellWidthsUptoCard : Claim7 := { stood := { row := cellWidthsUptoRow, standIns := [], harness := (true, "f28dbadd666c750c94aebce59970b64730948587571bd2e1c9f092b17767a089"), looks := false }, kinds := [], alts := [], laidByText := true, laidKinds := [.data], laidTests := true, laidLooks := .later }
def CellWidthsUptoCardSaid : Prop := Claim7.holds Tryd.pinned (.plain (OpenSpec.upto cellWidthsSpec)) cellWidthsUptoCard

/-- THE SECOND FORM's CARD OF 'inkhornlaw02.CellPlaces'. -/
def cellPlacesUptoCard : Claim7 := { stood := { row := cellPlacesUptoRow, standIns := [], harness := (true, "f28dbadd666c750c94aebce59970b64730948587571bd2e1c9f092b17767a089"), looks := false }, kinds := [], alts := [], laidByText := true, laidKinds := [.data], laidTests := true, laidLooks := .later }
def CellPlacesUptoCardSaid : Prop := Claim7.holds Tryd.pinned (.plain (OpenSpec.upto cellPlacesSpec)) cellPlacesUptoCard

/-- THE SECOND FORM's CARD OF 'inkhornlaw02.CellTabs'. -/
def cellTabsUptoCard : Claim7 := { stood := { row := cellTabsUptoRow, standIns := [], harness := (true, "f28dbadd666c750c94aebce59970b64730948587571bd2e1c9f092b17767a089"), looks := false }, kinds := [], alts := [], laidByText := true, laidKinds := [.data], laidTests := true, laidLooks := .later }
def CellTabsUptoCardSaid : Prop := Claim7.holds Tryd.pinned (.plain (OpenSpec.upto cellTabsSpec)) cellTabsUptoCard

/-- THE SECOND FORM's CARD OF 'inkhornlaw02.CellFront'. -/
def cellFrontUptoCard : Claim7 := { stood := { row := cellFrontUptoRow, standIns := [], harness := (true, "f28dbadd666c750c94aebce59970b64730948587571bd2e1c9f092b17767a089"), looks := false }, kinds := [], alts := [], laidByText := true, laidKinds := [.data], laidTests := true, laidLooks := .later }
def CellFrontUptoCardSaid : Prop := Claim7.holds Tryd.pinned (.plain (OpenSpec.upto cellFrontSpec)) cellFrontUptoCard

/-- THE SECOND FORM's CARD OF 'inkhornlaw02.CellUnits'. -/
def cellUnitsUptoCard : Claim7 := { stood := { row := cellUnitsUptoRow, standIns := [], harness := (true, "f28dbadd666c750c94aebce59970b64730948587571bd2e1c9f092b17767a089"), looks := false }, kinds := [], alts := [], laidByText := true, laidKinds := [.data], laidTests := true, laidLooks := .later }
def CellUnitsUptoCardSaid : Prop := Claim7.holds Tryd.pinned (.plain (OpenSpec.upto cellUnitsSpec)) cellUnitsUptoCard

/-- THE SECOND FORM's CARD OF 'inkhornlaw02.CellParts'. -/
def cellPartsUptoCard : Claim7 := { stood := { row := cellPartsUptoRow, standIns := [], harness := (true, "f28dbadd666c750c94aebce59970b64730948587571bd2e1c9f092b17767a089"), looks := false }, kinds := [], alts := [], laidByText := true, laidKinds := [.data], laidTests := true, laidLooks := .later }
def CellPartsUptoCardSaid : Prop := Claim7.holds Tryd.pinned (.plain (OpenSpec.upto cellPartsSpec)) cellPartsUptoCard

/-- THE SECOND FORM's CARD OF 'inkhornlaw02.CellBack'. -/
def cellBackUptoCard : Claim7 := { stood := { row := cellBackUptoRow, standIns := [], harness := (true, "f28dbadd666c750c94aebce59970b64730948587571bd2e1c9f092b17767a089"), looks := false }, kinds := [], alts := [], laidByText := true, laidKinds := [.data], laidTests := true, laidLooks := .later }
def CellBackUptoCardSaid : Prop := Claim7.holds Tryd.pinned (.plain (OpenSpec.upto cellBackSpec)) cellBackUptoCard
end Rows
end Go.Proofs.YtcnjmmffipjadaaDoor
