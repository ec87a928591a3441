/-
  NARROWER THAN 'FOR EVERY INPUT', by the rows' own cells (each row's printed sentence says how): CellWidths: laid · CellPlaces: laid · CellTabs: laid · CellFront: laid · CellUnits: laid · CellParts: laid · CellBack: laid.
  DERIVED. THE GIVEN ROWS OF THIS SEAT. 7 by the template 'for every input the law returns true; each argument reads behind the call as it read before'; 0 by the template 'total and deterministic' (their statements: YtcnjmmffipjadaaDoorTotals.lean).
  GIVEN WITH THE SEED: the statements are not yours to turn. If you find one false, say at which input.
  Laid BY PROGRAM, IN A SANDBOX (cutbox-rows.mjs): the forced cells as the released guide's own fill.sh prints them over the translation bc48bd5ba75fc2f2… (all of the seat's roots in one cut). By AI agents, Wed Nov 11 2026. No macro, syntax, notation, axiom, sorry.
-/
import Derived.Test.YtcnjmmffipjadaaDoorChecked
import GoSem.Claim
import GoSem.ClaimJoined
import GoSem.ClaimMapViews
import Derived.JoinedTies
import Derived.KernelRfl
namespace Go.Proofs.YtcnjmmffipjadaaDoor
/- THE CELL 'sum', in the pinned program and in every row, IS THE sha256 OF THE DUMP (.gsa) THAT YtcnjmmffipjadaaDoorProg.lean LOADS. Nothing in Lean hashes anything: it is a label: what it is worth is what the hold of that sum in a sandbox is worth. -/
noncomputable def Tryd.pinned : Pinned := { name := "ytcnjmmffipjadaadoor", sum := "bc48bd5ba75fc2f2e872da3b934d2ed13fa7bdad542eeb9b297e040f9ede114c", checked := Tryd.checked }
namespace Rows
def none {H : Type} : Left H := { results := [], args := [] }

/- WHAT THE LISTED PACKAGE-LEVEL VARIABLES READ AS WHEN THE CALL BEGINS. Each datum BY PROGRAM (the guide's laid-datum.mjs) off the statement by which the dump's own 'gosem.cut.vars' lays the variable. In a bare row this is a premise. The card (YtcnjmmffipjadaaDoorCards.lean) ties it to the program's text. -/
def laid_inkhorn_cell_ranges {H : Type} : DataW H := .slice [.agg [.lit (.int .i32 0), .lit (.int .i32 31), .lit (.int .i32 2)], .agg [.lit (.int .i32 127), .lit (.int .i32 127), .lit (.int .i32 2)], .agg [.lit (.int .i32 768), .lit (.int .i32 879), .lit (.int .i32 0)], .agg [.lit (.int .i32 4352), .lit (.int .i32 4447), .lit (.int .i32 2)], .agg [.lit (.int .i32 8203), .lit (.int .i32 8207), .lit (.int .i32 0)], .agg [.lit (.int .i32 8400), .lit (.int .i32 8447), .lit (.int .i32 0)], .agg [.lit (.int .i32 11904), .lit (.int .i32 12350), .lit (.int .i32 2)], .agg [.lit (.int .i32 12353), .lit (.int .i32 19903), .lit (.int .i32 2)], .agg [.lit (.int .i32 19968), .lit (.int .i32 42191), .lit (.int .i32 2)], .agg [.lit (.int .i32 44032), .lit (.int .i32 55203), .lit (.int .i32 2)], .agg [.lit (.int .i32 63744), .lit (.int .i32 64255), .lit (.int .i32 2)], .agg [.lit (.int .i32 65024), .lit (.int .i32 65039), .lit (.int .i32 0)], .agg [.lit (.int .i32 65072), .lit (.int .i32 65135), .lit (.int .i32 2)], .agg [.lit (.int .i32 65280), .lit (.int .i32 65376), .lit (.int .i32 2)], .agg [.lit (.int .i32 65504), .lit (.int .i32 65510), .lit (.int .i32 2)], .agg [.lit (.int .i32 127744), .lit (.int .i32 128591), .lit (.int .i32 2)], .agg [.lit (.int .i32 129280), .lit (.int .i32 129535), .lit (.int .i32 2)], .agg [.lit (.int .i32 131072), .lit (.int .i32 262141), .lit (.int .i32 2)]] []

/-- 'inkhornlaw02.CellWidths': WHATEVER THE INPUT: true; the input reads as it did. -/
def cellWidthsSpec : ChangeSpec := { name := "cellWidths", fn := fun _ => fun
  | [d] => { results := [.lit (.bool true)], args := [d] }
  | _ => none }
def cellWidthsRow : OpenClaim := { program := "ytcnjmmffipjadaadoor", sum := "bc48bd5ba75fc2f2e872da3b934d2ed13fa7bdad542eeb9b297e040f9ede114c", func := "inkhorn/inkhornlaw02.CellWidths", spec := "cellWidths", named := ["inkhorn/cell.ranges"], apart := false, laid := [("inkhorn/cell.ranges", laid_inkhorn_cell_ranges)] }
def CellWidthsSaid : Prop := cellWidthsRow.holds Tryd.pinned (OpenSpec.ofChange cellWidthsSpec)

/-- ITS FALSE NEIGHBOUR: 'it returns false'. Refute it at one input. -/
def cellWidthsWrong : ChangeSpec := { name := "cellWidths", fn := fun _ => fun
  | [d] => { results := [.lit (.bool false)], args := [d] }
  | _ => none }
def CellWidthsWrongFalsely : Prop := cellWidthsRow.holds Tryd.pinned (OpenSpec.ofChange cellWidthsWrong)

/-- 'inkhornlaw02.CellPlaces': WHATEVER THE INPUT: true; the input reads as it did. -/
def cellPlacesSpec : ChangeSpec := { name := "cellPlaces", fn := fun _ => fun
  | [d1, d2, d3] => { results := [.lit (.bool true)], args := [d1, d2, d3] }
  | _ => none }
def cellPlacesRow : OpenClaim := { program := "ytcnjmmffipjadaadoor", sum := "bc48bd5ba75fc2f2e872da3b934d2ed13fa7bdad542eeb9b297e040f9ede114c", func := "inkhorn/inkhornlaw02.CellPlaces", spec := "cellPlaces", named := ["inkhorn/cell.ranges"], apart := false, laid := [("inkhorn/cell.ranges", laid_inkhorn_cell_ranges)] }
def CellPlacesSaid : Prop := cellPlacesRow.holds Tryd.pinned (OpenSpec.ofChange cellPlacesSpec)

/-- ITS FALSE NEIGHBOUR: 'it returns false'. Refute it at one input. -/
def cellPlacesWrong : ChangeSpec := { name := "cellPlaces", fn := fun _ => fun
  | [d1, d2, d3] => { results := [.lit (.bool false)], args := [d1, d2, d3] }
  | _ => none }
def CellPlacesWrongFalsely : Prop := cellPlacesRow.holds Tryd.pinned (OpenSpec.ofChange cellPlacesWrong)

/-- 'inkhornlaw02.CellTabs': WHATEVER THE INPUT: true; the input reads as it did. -/
def cellTabsSpec : ChangeSpec := { name := "cellTabs", fn := fun _ => fun
  | [d1, d2] => { results := [.lit (.bool true)], args := [d1, d2] }
  | _ => none }
def cellTabsRow : OpenClaim := { program := "ytcnjmmffipjadaadoor", sum := "bc48bd5ba75fc2f2e872da3b934d2ed13fa7bdad542eeb9b297e040f9ede114c", func := "inkhorn/inkhornlaw02.CellTabs", spec := "cellTabs", named := ["inkhorn/cell.ranges"], apart := false, laid := [("inkhorn/cell.ranges", laid_inkhorn_cell_ranges)] }
def CellTabsSaid : Prop := cellTabsRow.holds Tryd.pinned (OpenSpec.ofChange cellTabsSpec)

/-- ITS FALSE NEIGHBOUR: 'it returns false'. Refute it at one input. -/
def cellTabsWrong : ChangeSpec := { name := "cellTabs", fn := fun _ => fun
  | [d1, d2] => { results := [.lit (.bool false)], args := [d1, d2] }
  | _ => none }
def CellTabsWrongFalsely : Prop := cellTabsRow.holds Tryd.pinned (OpenSpec.ofChange cellTabsWrong)

/-- 'inkhornlaw02.CellFront': WHATEVER THE INPUT: true; the input reads as it did. -/
def cellFrontSpec : ChangeSpec := { name := "cellFront", fn := fun _ => fun
  | [d1, d2, d3] => { results := [.lit (.bool true)], args := [d1, d2, d3] }
  | _ => none }
def cellFrontRow : OpenClaim := { program := "ytcnjmmffipjadaadoor", sum := "bc48bd5ba75fc2f2e872da3b934d2ed13fa7bdad542eeb9b297e040f9ede114c", func := "inkhorn/inkhornlaw02.CellFront", spec := "cellFront", named := ["inkhorn/cell.ranges"], apart := false, laid := [("inkhorn/cell.ranges", laid_inkhorn_cell_ranges)] }
def CellFrontSaid : Prop := cellFrontRow.holds Tryd.pinned (OpenSpec.ofChange cellFrontSpec)

/-- ITS FALSE NEIGHBOUR: 'it returns false'. Refute it at one input. -/
def cellFrontWrong : ChangeSpec := { name := "cellFront", fn := fun _ => fun
  | [d1, d2, d3] => { results := [.lit (.bool false)], args := [d1, d2, d3] }
  | _ => none }
def CellFrontWrongFalsely : Prop := cellFrontRow.holds Tryd.pinned (OpenSpec.ofChange cellFrontWrong)

/-- 'inkhornlaw02.CellUnits': WHATEVER THE INPUT: true; the input reads as it did. -/
def cellUnitsSpec : ChangeSpec := { name := "cellUnits", fn := fun _ => fun
  | [d1, d2] => { results := [.lit (.bool true)], args := [d1, d2] }
  | _ => none }
def cellUnitsRow : OpenClaim := { program := "ytcnjmmffipjadaadoor", sum := "bc48bd5ba75fc2f2e872da3b934d2ed13fa7bdad542eeb9b297e040f9ede114c", func := "inkhorn/inkhornlaw02.CellUnits", spec := "cellUnits", named := ["inkhorn/cell.ranges"], apart := false, laid := [("inkhorn/cell.ranges", laid_inkhorn_cell_ranges)] }
def CellUnitsSaid : Prop := cellUnitsRow.holds Tryd.pinned (OpenSpec.ofChange cellUnitsSpec)

/-- ITS FALSE NEIGHBOUR: 'it returns false'. Refute it at one input. -/
def cellUnitsWrong : ChangeSpec := { name := "cellUnits", fn := fun _ => fun
  | [d1, d2] => { results := [.lit (.bool false)], args := [d1, d2] }
  | _ => none }
def CellUnitsWrongFalsely : Prop := cellUnitsRow.holds Tryd.pinned (OpenSpec.ofChange cellUnitsWrong)

/-- 'inkhornlaw02.CellParts': WHATEVER THE INPUT: true; the input reads as it did. -/
def cellPartsSpec : ChangeSpec := { name := "cellParts", fn := fun _ => fun
  | [d1, d2] => { results := [.lit (.bool true)], args := [d1, d2] }
  | _ => none }
def cellPartsRow : OpenClaim := { program := "ytcnjmmffipjadaadoor", sum := "bc48bd5ba75fc2f2e872da3b934d2ed13fa7bdad542eeb9b297e040f9ede114c", func := "inkhorn/inkhornlaw02.CellParts", spec := "cellParts", named := ["inkhorn/cell.ranges"], apart := false, laid := [("inkhorn/cell.ranges", laid_inkhorn_cell_ranges)] }
def CellPartsSaid : Prop := cellPartsRow.holds Tryd.pinned (OpenSpec.ofChange cellPartsSpec)

/-- ITS FALSE NEIGHBOUR: 'it returns false'. Refute it at one input. -/
def cellPartsWrong : ChangeSpec := { name := "cellParts", fn := fun _ => fun
  | [d1, d2] => { results := [.lit (.bool false)], args := [d1, d2] }
  | _ => none }
def CellPartsWrongFalsely : Prop := cellPartsRow.holds Tryd.pinned (OpenSpec.ofChange cellPartsWrong)

/-- 'inkhornlaw02.CellBack': WHATEVER THE INPUT: true; the input reads as it did. -/
def cellBackSpec : ChangeSpec := { name := "cellBack", fn := fun _ => fun
  | [d1, d2] => { results := [.lit (.bool true)], args := [d1, d2] }
  | _ => none }
def cellBackRow : OpenClaim := { program := "ytcnjmmffipjadaadoor", sum := "bc48bd5ba75fc2f2e872da3b934d2ed13fa7bdad542eeb9b297e040f9ede114c", func := "inkhorn/inkhornlaw02.CellBack", spec := "cellBack", named := ["inkhorn/cell.ranges"], apart := false, laid := [("inkhorn/cell.ranges", laid_inkhorn_cell_ranges)] }
def CellBackSaid : Prop := cellBackRow.holds Tryd.pinned (OpenSpec.ofChange cellBackSpec)

/-- ITS FALSE NEIGHBOUR: 'it returns false'. Refute it at one input. -/
def cellBackWrong : ChangeSpec := { name := "cellBack", fn := fun _ => fun
  | [d1, d2] => { results := [.lit (.bool false)], args := [d1, d2] }
  | _ => none }
def CellBackWrongFalsely : Prop := cellBackRow.holds Tryd.pinned (OpenSpec.ofChange cellBackWrong)

/- THE SECOND FORM. 'bulk': how many values and letters a reading holds, each counted each time it is reached (what is shared counts as often as it is met; a slice's spare places count too). A statement '..UptoSaid' is the law's where the arguments, and the package variables that the reading takes, are together of bulk at most 1048576: NARROWER than '..Said'. Prove '..Said' where nothing that the law and all that it calls make is longer than what came in: it says more and counts as full. Else prove '..UptoSaid'. A law counts once. -/
mutual
def uptoBulk {H : Type} : DataW H → Nat
  | .lit (.string bytes) => bytes.length + 1
  | .lit _ => 1
  | .nil => 1
  | .ptr d => uptoBulk d + 1
  | .slice elems spare => uptoBulkAll elems + uptoBulkAll spare + 1
  | .agg parts => uptoBulkAll parts + 1
  | .iface _ d => uptoBulk d + 1
  | .map entries => uptoBulkEntries entries + 1
  | .held _ => 1
def uptoBulkAll {H : Type} : List (DataW H) → Nat
  | [] => 0
  | d :: r => uptoBulk d + uptoBulkAll r
def uptoBulkEntries {H : Type} : List (Lit × DataW H) → Nat
  | [] => 0
  | x :: r => uptoBulkEntry x + uptoBulkEntries r
def uptoBulkEntry {H : Type} : Lit × DataW H → Nat
  | (.string bytes, d) => bytes.length + uptoBulk d + 1
  | (_, d) => uptoBulk d + 1
 end
def uptoSmall : (H : Type) → List (DataW H) → Bool := fun _ ds => decide (uptoBulkAll ds ≤ 1048576)
def OpenSpec.upto (s : _root_.Go.ChangeSpec) : _root_.Go.OpenSpec := { _root_.Go.OpenSpec.ofChange s with cond := some uptoSmall }

/-- 'inkhornlaw02.CellWidths', WHERE WHAT IT READS IS OF BULK AT MOST 1048576: true; the input reads as it did. -/
def cellWidthsUptoRow : OpenClaim := { program := "ytcnjmmffipjadaadoor", sum := "bc48bd5ba75fc2f2e872da3b934d2ed13fa7bdad542eeb9b297e040f9ede114c", func := "inkhorn/inkhornlaw02.CellWidths", spec := "cellWidths", named := ["inkhorn/cell.ranges"], apart := false, laid := [("inkhorn/cell.ranges", laid_inkhorn_cell_ranges)], narrowed := true }
def CellWidthsUptoSaid : Prop := cellWidthsUptoRow.holds Tryd.pinned (OpenSpec.upto cellWidthsSpec)

/-- 'inkhornlaw02.CellPlaces', WHERE WHAT IT READS IS OF BULK AT MOST 1048576: true; the input reads as it did. -/
def cellPlacesUptoRow : OpenClaim := { program := "ytcnjmmffipjadaadoor", sum := "bc48bd5ba75fc2f2e872da3b934d2ed13fa7bdad542eeb9b297e040f9ede114c", func := "inkhorn/inkhornlaw02.CellPlaces", spec := "cellPlaces", named := ["inkhorn/cell.ranges"], apart := false, laid := [("inkhorn/cell.ranges", laid_inkhorn_cell_ranges)], narrowed := true }
def CellPlacesUptoSaid : Prop := cellPlacesUptoRow.holds Tryd.pinned (OpenSpec.upto cellPlacesSpec)

/-- 'inkhornlaw02.CellTabs', WHERE WHAT IT READS IS OF BULK AT MOST 1048576: true; the input reads as it did. -/
def cellTabsUptoRow : OpenClaim := { program := "ytcnjmmffipjadaadoor", sum := "bc48bd5ba75fc2f2e872da3b934d2ed13fa7bdad542eeb9b297e040f9ede114c", func := "inkhorn/inkhornlaw02.CellTabs", spec := "cellTabs", named := ["inkhorn/cell.ranges"], apart := false, laid := [("inkhorn/cell.ranges", laid_inkhorn_cell_ranges)], narrowed := true }
def CellTabsUptoSaid : Prop := cellTabsUptoRow.holds Tryd.pinned (OpenSpec.upto cellTabsSpec)

/-- 'inkhornlaw02.CellFront', WHERE WHAT IT READS IS OF BULK AT MOST 1048576: true; the input reads as it did. -/
def cellFrontUptoRow : OpenClaim := { program := "ytcnjmmffipjadaadoor", sum := "bc48bd5ba75fc2f2e872da3b934d2ed13fa7bdad542eeb9b297e040f9ede114c", func := "inkhorn/inkhornlaw02.CellFront", spec := "cellFront", named := ["inkhorn/cell.ranges"], apart := false, laid := [("inkhorn/cell.ranges", laid_inkhorn_cell_ranges)], narrowed := true }
def CellFrontUptoSaid : Prop := cellFrontUptoRow.holds Tryd.pinned (OpenSpec.upto cellFrontSpec)

/-- 'inkhornlaw02.CellUnits', WHERE WHAT IT READS IS OF BULK AT MOST 1048576: true; the input reads as it did. -/
def cellUnitsUptoRow : OpenClaim := { program := "ytcnjmmffipjadaadoor", sum := "bc48bd5ba75fc2f2e872da3b934d2ed13fa7bdad542eeb9b297e040f9ede114c", func := "inkhorn/inkhornlaw02.CellUnits", spec := "cellUnits", named := ["inkhorn/cell.ranges"], apart := false, laid := [("inkhorn/cell.ranges", laid_inkhorn_cell_ranges)], narrowed := true }
def CellUnitsUptoSaid : Prop := cellUnitsUptoRow.holds Tryd.pinned (OpenSpec.upto cellUnitsSpec)

/-- 'inkhornlaw02.CellParts', WHERE WHAT IT READS IS OF BULK AT MOST 1048576: true; the input reads as it did. -/
def cellPartsUptoRow : OpenClaim := { program := "ytcnjmmffipjadaadoor", sum := "bc48bd5ba75fc2f2e872da3b934d2ed13fa7bdad542eeb9b297e040f9ede114c", func := "inkhorn/inkhornlaw02.CellParts", spec := "cellParts", named := ["inkhorn/cell.ranges"], apart := false, laid := [("inkhorn/cell.ranges", laid_inkhorn_cell_ranges)], narrowed := true }
def CellPartsUptoSaid : Prop := cellPartsUptoRow.holds Tryd.pinned (OpenSpec.upto cellPartsSpec)

/-- 'inkhornlaw02.CellBack', WHERE WHAT IT READS IS OF BULK AT MOST 1048576: true; the input reads as it did. -/
def cellBackUptoRow : OpenClaim := { program := "ytcnjmmffipjadaadoor", sum := "bc48bd5ba75fc2f2e872da3b934d2ed13fa7bdad542eeb9b297e040f9ede114c", func := "inkhorn/inkhornlaw02.CellBack", spec := "cellBack", named := ["inkhorn/cell.ranges"], apart := false, laid := [("inkhorn/cell.ranges", laid_inkhorn_cell_ranges)], narrowed := true }
def CellBackUptoSaid : Prop := cellBackUptoRow.holds Tryd.pinned (OpenSpec.upto cellBackSpec)

end Rows
end Go.Proofs.YtcnjmmffipjadaaDoor
