/-
  DERIVED. GIVEN WITH THE SEED: THE CARDS: each row of YtefpalmihdbmiaaDoorRows.lean that lists a variable, with what it lists TIED to the program's text (the seventh form; the later family's looks); each row that meets fmt, with fmt's text TOLD by the authors' own Lean function (tested against real Go, not proved from fmt's source: count such statements apart). THE CARD IS WHAT COUNTS. Prove the row's statement (the work); the ties are given (YtefpalmihdbmiaaDoorTie.lean); close each card by the builder's one call (the guide's Derived/Test/ToyasCard.lean, 'card_holds'). Laid BY PROGRAM, IN A SANDBOX (cutbox-door.mjs). By AI agents, Wed Nov 11 2026. No macro, syntax, notation, axiom, sorry.
-/
import Derived.Test.YtefpalmihdbmiaaDoorRows
import GoSem.ClaimSeven
namespace Go.Proofs.YtefpalmihdbmiaaDoor
namespace Rows

/-- THE TIED CARD OF 'inkhornlaw21.TermWrites'. -/
def termWritesCard : Claim7 := { stood := { row := termWritesRow, standIns := [], harness := (true, "0404c6a24baa77d3ed2d3dc42f40d53c18047b282dc675c56f880c3fff6e6826"), looks := false }, kinds := [], alts := [], laidByText := true, laidKinds := [.data], laidTests := true, laidLooks := .later }
def TermWritesCardSaid : Prop := Claim7.holds Tryd.pinned (.plain (OpenSpec.ofChange termWritesSpec)) termWritesCard

/-- THE TIED CARD OF 'inkhornlaw21.TermPieces'. -/
def termPiecesCard : Claim7 := { stood := { row := termPiecesRow, standIns := [], harness := (true, "0404c6a24baa77d3ed2d3dc42f40d53c18047b282dc675c56f880c3fff6e6826"), looks := false }, kinds := [], alts := [], laidByText := true, laidKinds := [.data], laidTests := true, laidLooks := .later }
def TermPiecesCardSaid : Prop := Claim7.holds Tryd.pinned (.plain (OpenSpec.ofChange termPiecesSpec)) termPiecesCard

/-- THE TIED CARD OF 'inkhornlaw21.TermRight'. -/
def termRightCard : Claim7 := { stood := { row := termRightRow, standIns := [], harness := (true, "0404c6a24baa77d3ed2d3dc42f40d53c18047b282dc675c56f880c3fff6e6826"), looks := false }, kinds := [], alts := [], laidByText := true, laidKinds := [.data], laidTests := true, laidLooks := .later }
def TermRightCardSaid : Prop := Claim7.holds Tryd.pinned (.plain (OpenSpec.ofChange termRightSpec)) termRightCard

/-- THE TIED CARD OF 'inkhornlaw21.TermTypes'. -/
def termTypesCard : Claim7 := { stood := { row := termTypesRow, standIns := [], harness := (true, "0404c6a24baa77d3ed2d3dc42f40d53c18047b282dc675c56f880c3fff6e6826"), looks := false }, kinds := [], alts := [], laidByText := true, laidKinds := [.data], laidTests := true, laidLooks := .later }
def TermTypesCardSaid : Prop := Claim7.holds Tryd.pinned (.plain (OpenSpec.ofChange termTypesSpec)) termTypesCard

/-- THE TIED CARD OF 'inkhornlaw21.TermClears'. -/
def termClearsCard : Claim7 := { stood := { row := termClearsRow, standIns := [], harness := (true, "0404c6a24baa77d3ed2d3dc42f40d53c18047b282dc675c56f880c3fff6e6826"), looks := false }, kinds := [], alts := [], laidByText := true, laidKinds := [.data], laidTests := true, laidLooks := .later }
def TermClearsCardSaid : Prop := Claim7.holds Tryd.pinned (.plain (OpenSpec.ofChange termClearsSpec)) termClearsCard

/-- THE TIED CARD OF 'inkhornlaw21.TermResizes'. -/
def termResizesCard : Claim7 := { stood := { row := termResizesRow, standIns := [], harness := (true, "0404c6a24baa77d3ed2d3dc42f40d53c18047b282dc675c56f880c3fff6e6826"), looks := false }, kinds := [], alts := [], laidByText := true, laidKinds := [.data], laidTests := true, laidLooks := .later }
def TermResizesCardSaid : Prop := Claim7.holds Tryd.pinned (.plain (OpenSpec.ofChange termResizesSpec)) termResizesCard

/-- THE TIED CARD OF 'inkhornlaw21.TermNone'. -/
def termNoneCard : Claim7 := { stood := { row := termNoneRow, standIns := [], harness := (true, "0404c6a24baa77d3ed2d3dc42f40d53c18047b282dc675c56f880c3fff6e6826"), looks := false }, kinds := [], alts := [], laidByText := true, laidKinds := [.data], laidTests := true, laidLooks := .later }
def TermNoneCardSaid : Prop := Claim7.holds Tryd.pinned (.plain (OpenSpec.ofChange termNoneSpec)) termNoneCard

/-- THE SECOND FORM's CARD OF 'inkhornlaw21.TermWrites'. -/
def termWritesUptoCard : Claim7 := { stood := { row := termWritesUptoRow, standIns := [], harness := (true, "0404c6a24baa77d3ed2d3dc42f40d53c18047b282dc675c56f880c3fff6e6826"), looks := false }, kinds := [], alts := [], laidByText := true, laidKinds := [.data], laidTests := true, laidLooks := .later }
def TermWritesUptoCardSaid : Prop := Claim7.holds Tryd.pinned (.plain (OpenSpec.upto termWritesSpec)) termWritesUptoCard

/-- THE SECOND FORM's CARD OF 'inkhornlaw21.TermPieces'. -/
def termPiecesUptoCard : Claim7 := { stood := { row := termPiecesUptoRow, standIns := [], harness := (true, "0404c6a24baa77d3ed2d3dc42f40d53c18047b282dc675c56f880c3fff6e6826"), looks := false }, kinds := [], alts := [], laidByText := true, laidKinds := [.data], laidTests := true, laidLooks := .later }
def TermPiecesUptoCardSaid : Prop := Claim7.holds Tryd.pinned (.plain (OpenSpec.upto termPiecesSpec)) termPiecesUptoCard

/-- THE SECOND FORM's CARD OF 'inkhornlaw21.TermRight'. -/
def termRightUptoCard : Claim7 := { stood := { row := termRightUptoRow, standIns := [], harness := (true, "0404c6a24baa77d3ed2d3dc42f40d53c18047b282dc675c56f880c3fff6e6826"), looks := false }, kinds := [], alts := [], laidByText := true, laidKinds := [.data], laidTests := true, laidLooks := .later }
def TermRightUptoCardSaid : Prop := Claim7.holds Tryd.pinned (.plain (OpenSpec.upto termRightSpec)) termRightUptoCard

/-- THE SECOND FORM's CARD OF 'inkhornlaw21.TermTypes'. -/
def termTypesUptoCard : Claim7 := { stood := { row := termTypesUptoRow, standIns := [], harness := (true, "0404c6a24baa77d3ed2d3dc42f40d53c18047b282dc675c56f880c3fff6e6826"), looks := false }, kinds := [], alts := [], laidByText := true, laidKinds := [.data], laidTests := true, laidLooks := .later }
def TermTypesUptoCardSaid : Prop := Claim7.holds Tryd.pinned (.plain (OpenSpec.upto termTypesSpec)) termTypesUptoCard

/-- THE SECOND FORM's CARD OF 'inkhornlaw21.TermClears'. -/
def termClearsUptoCard : Claim7 := { stood := { row := termClearsUptoRow, standIns := [], harness := (true, "0404c6a24baa77d3ed2d3dc42f40d53c18047b282dc675c56f880c3fff6e6826"), looks := false }, kinds := [], alts := [], laidByText := true, laidKinds := [.data], laidTests := true, laidLooks := .later }
def TermClearsUptoCardSaid : Prop := Claim7.holds Tryd.pinned (.plain (OpenSpec.upto termClearsSpec)) termClearsUptoCard

/-- THE SECOND FORM's CARD OF 'inkhornlaw21.TermResizes'. -/
def termResizesUptoCard : Claim7 := { stood := { row := termResizesUptoRow, standIns := [], harness := (true, "0404c6a24baa77d3ed2d3dc42f40d53c18047b282dc675c56f880c3fff6e6826"), looks := false }, kinds := [], alts := [], laidByText := true, laidKinds := [.data], laidTests := true, laidLooks := .later }
def TermResizesUptoCardSaid : Prop := Claim7.holds Tryd.pinned (.plain (OpenSpec.upto termResizesSpec)) termResizesUptoCard

/-- THE SECOND FORM's CARD OF 'inkhornlaw21.TermNone'. -/
def termNoneUptoCard : Claim7 := { stood := { row := termNoneUptoRow, standIns := [], harness := (true, "0404c6a24baa77d3ed2d3dc42f40d53c18047b282dc675c56f880c3fff6e6826"), looks := false }, kinds := [], alts := [], laidByText := true, laidKinds := [.data], laidTests := true, laidLooks := .later }
def TermNoneUptoCardSaid : Prop := Claim7.holds Tryd.pinned (.plain (OpenSpec.upto termNoneSpec)) termNoneUptoCard
end Rows
end Go.Proofs.YtefpalmihdbmiaaDoor
