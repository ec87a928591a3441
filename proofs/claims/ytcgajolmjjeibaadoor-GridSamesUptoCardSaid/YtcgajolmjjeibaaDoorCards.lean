/-
  DERIVED. GIVEN WITH THE SEED: THE CARDS: each row of YtcgajolmjjeibaaDoorRows.lean that lists a variable, with what it lists TIED to the program's text (the seventh form; the later family's looks); each row that meets fmt, with fmt's text TOLD by the authors' own Lean function (tested against real Go, not proved from fmt's source: count such statements apart). THE CARD IS WHAT COUNTS. Prove the row's statement (the work); the ties are given (YtcgajolmjjeibaaDoorTie.lean); close each card by the builder's one call (the guide's Derived/Test/ToyasCard.lean, 'card_holds'). Laid BY PROGRAM, IN A SANDBOX (cutbox-door.mjs). By AI agents, Wed Nov 11 2026. No macro, syntax, notation, axiom, sorry.
-/
import Derived.Test.YtcgajolmjjeibaaDoorRows
import GoSem.ClaimSeven
namespace Go.Proofs.YtcgajolmjjeibaaDoor
namespace Rows

/-- THE TIED CARD OF 'inkhornlaw20.GridSames'. -/
def gridSamesCard : Claim7 := { stood := { row := gridSamesRow, standIns := [], harness := (true, "8969cb84e2986d3cb06f4a47a68b8ec7a56d179f6f01eda6abc6943830d6dfce"), looks := false }, kinds := [], alts := [], laidByText := true, laidKinds := [.data, .data, .data, .data], laidTests := true, laidLooks := .later }
def GridSamesCardSaid : Prop := Claim7.holds Tryd.pinned (.plain (OpenSpec.ofChange gridSamesSpec)) gridSamesCard

/-- THE TIED CARD OF 'inkhornlaw20.GridRight'. -/
def gridRightCard : Claim7 := { stood := { row := gridRightRow, standIns := [], harness := (true, "8969cb84e2986d3cb06f4a47a68b8ec7a56d179f6f01eda6abc6943830d6dfce"), looks := false }, kinds := [], alts := [], laidByText := true, laidKinds := [.data, .data, .data, .data], laidTests := true, laidLooks := .later }
def GridRightCardSaid : Prop := Claim7.holds Tryd.pinned (.plain (OpenSpec.ofChange gridRightSpec)) gridRightCard

/-- THE TIED CARD OF 'inkhornlaw20.GridReads'. -/
def gridReadsCard : Claim7 := { stood := { row := gridReadsRow, standIns := [], harness := (true, "8969cb84e2986d3cb06f4a47a68b8ec7a56d179f6f01eda6abc6943830d6dfce"), looks := false }, kinds := [], alts := [], laidByText := true, laidKinds := [.data, .data, .data, .data], laidTests := true, laidLooks := .later }
def GridReadsCardSaid : Prop := Claim7.holds Tryd.pinned (.plain (OpenSpec.ofChange gridReadsSpec)) gridReadsCard

/-- THE SECOND FORM's CARD OF 'inkhornlaw20.GridSames'. -/
def gridSamesUptoCard : Claim7 := { stood := { row := gridSamesUptoRow, standIns := [], harness := (true, "8969cb84e2986d3cb06f4a47a68b8ec7a56d179f6f01eda6abc6943830d6dfce"), looks := false }, kinds := [], alts := [], laidByText := true, laidKinds := [.data, .data, .data, .data], laidTests := true, laidLooks := .later }
def GridSamesUptoCardSaid : Prop := Claim7.holds Tryd.pinned (.plain (OpenSpec.upto gridSamesSpec)) gridSamesUptoCard

/-- THE SECOND FORM's CARD OF 'inkhornlaw20.GridRight'. -/
def gridRightUptoCard : Claim7 := { stood := { row := gridRightUptoRow, standIns := [], harness := (true, "8969cb84e2986d3cb06f4a47a68b8ec7a56d179f6f01eda6abc6943830d6dfce"), looks := false }, kinds := [], alts := [], laidByText := true, laidKinds := [.data, .data, .data, .data], laidTests := true, laidLooks := .later }
def GridRightUptoCardSaid : Prop := Claim7.holds Tryd.pinned (.plain (OpenSpec.upto gridRightSpec)) gridRightUptoCard

/-- THE SECOND FORM's CARD OF 'inkhornlaw20.GridReads'. -/
def gridReadsUptoCard : Claim7 := { stood := { row := gridReadsUptoRow, standIns := [], harness := (true, "8969cb84e2986d3cb06f4a47a68b8ec7a56d179f6f01eda6abc6943830d6dfce"), looks := false }, kinds := [], alts := [], laidByText := true, laidKinds := [.data, .data, .data, .data], laidTests := true, laidLooks := .later }
def GridReadsUptoCardSaid : Prop := Claim7.holds Tryd.pinned (.plain (OpenSpec.upto gridReadsSpec)) gridReadsUptoCard
end Rows
end Go.Proofs.YtcgajolmjjeibaaDoor
