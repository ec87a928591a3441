/-
  DERIVED. GIVEN WITH THE SEED: THE CARDS: each row of YthmpaddhmgnkbaaDoorRows.lean that lists a variable, with what it lists TIED to the program's text (the seventh form; the later family's looks); each row that meets fmt, with fmt's text TOLD by the authors' own Lean function (tested against real Go, not proved from fmt's source: count such statements apart). THE CARD IS WHAT COUNTS. Prove the row's statement (the work); the ties are given (YthmpaddhmgnkbaaDoorTie.lean); close each card by the builder's one call (the guide's Derived/Test/ToyasCard.lean, 'card_holds'). Laid BY PROGRAM, IN A SANDBOX (cutbox-door.mjs). By AI agents, Wed Nov 11 2026. No macro, syntax, notation, axiom, sorry.
-/
import Derived.Test.YthmpaddhmgnkbaaDoorRows
import GoSem.ClaimSeven
namespace Go.Proofs.YthmpaddhmgnkbaaDoor
namespace Rows

/-- THE TIED CARD OF 'inkhornlaw22.EmitShows'. -/
def emitShowsCard : Claim7 := { stood := { row := emitShowsRow, standIns := [], harness := (true, "5510c7517ff2ac5cfd27c39d133840ae2b3a559de8ceeb0c06605fd5319f32e1"), looks := true }, kinds := [], alts := [], laidByText := true, laidKinds := [.data, .data, .data, .data], laidTests := true, laidLooks := .later }
def EmitShowsCardSaid : Prop := Claim7.holds Tryd.pinned (.plain (OpenSpec.ofChange emitShowsSpec)) emitShowsCard

/-- THE TIED CARD OF 'inkhornlaw22.EmitFew'. -/
def emitFewCard : Claim7 := { stood := { row := emitFewRow, standIns := [], harness := (true, "5510c7517ff2ac5cfd27c39d133840ae2b3a559de8ceeb0c06605fd5319f32e1"), looks := true }, kinds := [], alts := [], laidByText := true, laidKinds := [.data, .data, .data, .data], laidTests := true, laidLooks := .later }
def EmitFewCardSaid : Prop := Claim7.holds Tryd.pinned (.plain (OpenSpec.ofChange emitFewSpec)) emitFewCard

/-- THE TIED CARD OF 'inkhornlaw22.EmitForms'. -/
def emitFormsCard : Claim7 := { stood := { row := emitFormsRow, standIns := [], harness := (true, "5510c7517ff2ac5cfd27c39d133840ae2b3a559de8ceeb0c06605fd5319f32e1"), looks := true }, kinds := [], alts := [], laidByText := true, laidKinds := [.data, .data, .data, .data], laidTests := true, laidLooks := .later }
def EmitFormsCardSaid : Prop := Claim7.holds Tryd.pinned (.plain (OpenSpec.ofChange emitFormsSpec)) emitFormsCard

/-- THE TIED CARD OF 'inkhornlaw22.EmitNothing'. -/
def emitNothingCard : Claim7 := { stood := { row := emitNothingRow, standIns := [], harness := (true, "5510c7517ff2ac5cfd27c39d133840ae2b3a559de8ceeb0c06605fd5319f32e1"), looks := true }, kinds := [], alts := [], laidByText := true, laidKinds := [.data, .data, .data, .data], laidTests := true, laidLooks := .later }
def EmitNothingCardSaid : Prop := Claim7.holds Tryd.pinned (.plain (OpenSpec.ofChange emitNothingSpec)) emitNothingCard

/-- THE TIED CARD OF 'inkhornlaw22.EmitGoes'. -/
def emitGoesCard : Claim7 := { stood := { row := emitGoesRow, standIns := [], harness := (true, "5510c7517ff2ac5cfd27c39d133840ae2b3a559de8ceeb0c06605fd5319f32e1"), looks := true }, kinds := [], alts := [], laidByText := true, laidKinds := [.data, .data, .data, .data], laidTests := true, laidLooks := .later }
def EmitGoesCardSaid : Prop := Claim7.holds Tryd.pinned (.plain (OpenSpec.ofChange emitGoesSpec)) emitGoesCard

/-- THE SECOND FORM's CARD OF 'inkhornlaw22.EmitShows'. -/
def emitShowsUptoCard : Claim7 := { stood := { row := emitShowsUptoRow, standIns := [], harness := (true, "5510c7517ff2ac5cfd27c39d133840ae2b3a559de8ceeb0c06605fd5319f32e1"), looks := true }, kinds := [], alts := [], laidByText := true, laidKinds := [.data, .data, .data, .data], laidTests := true, laidLooks := .later }
def EmitShowsUptoCardSaid : Prop := Claim7.holds Tryd.pinned (.plain (OpenSpec.upto emitShowsSpec)) emitShowsUptoCard

/-- THE SECOND FORM's CARD OF 'inkhornlaw22.EmitFew'. -/
def emitFewUptoCard : Claim7 := { stood := { row := emitFewUptoRow, standIns := [], harness := (true, "5510c7517ff2ac5cfd27c39d133840ae2b3a559de8ceeb0c06605fd5319f32e1"), looks := true }, kinds := [], alts := [], laidByText := true, laidKinds := [.data, .data, .data, .data], laidTests := true, laidLooks := .later }
def EmitFewUptoCardSaid : Prop := Claim7.holds Tryd.pinned (.plain (OpenSpec.upto emitFewSpec)) emitFewUptoCard

/-- THE SECOND FORM's CARD OF 'inkhornlaw22.EmitForms'. -/
def emitFormsUptoCard : Claim7 := { stood := { row := emitFormsUptoRow, standIns := [], harness := (true, "5510c7517ff2ac5cfd27c39d133840ae2b3a559de8ceeb0c06605fd5319f32e1"), looks := true }, kinds := [], alts := [], laidByText := true, laidKinds := [.data, .data, .data, .data], laidTests := true, laidLooks := .later }
def EmitFormsUptoCardSaid : Prop := Claim7.holds Tryd.pinned (.plain (OpenSpec.upto emitFormsSpec)) emitFormsUptoCard

/-- THE SECOND FORM's CARD OF 'inkhornlaw22.EmitNothing'. -/
def emitNothingUptoCard : Claim7 := { stood := { row := emitNothingUptoRow, standIns := [], harness := (true, "5510c7517ff2ac5cfd27c39d133840ae2b3a559de8ceeb0c06605fd5319f32e1"), looks := true }, kinds := [], alts := [], laidByText := true, laidKinds := [.data, .data, .data, .data], laidTests := true, laidLooks := .later }
def EmitNothingUptoCardSaid : Prop := Claim7.holds Tryd.pinned (.plain (OpenSpec.upto emitNothingSpec)) emitNothingUptoCard

/-- THE SECOND FORM's CARD OF 'inkhornlaw22.EmitGoes'. -/
def emitGoesUptoCard : Claim7 := { stood := { row := emitGoesUptoRow, standIns := [], harness := (true, "5510c7517ff2ac5cfd27c39d133840ae2b3a559de8ceeb0c06605fd5319f32e1"), looks := true }, kinds := [], alts := [], laidByText := true, laidKinds := [.data, .data, .data, .data], laidTests := true, laidLooks := .later }
def EmitGoesUptoCardSaid : Prop := Claim7.holds Tryd.pinned (.plain (OpenSpec.upto emitGoesSpec)) emitGoesUptoCard
end Rows
end Go.Proofs.YthmpaddhmgnkbaaDoor
