/-
  NARROWER THAN 'FOR EVERY INPUT', by the rows' own cells (each row's printed sentence says how): TermWrites: laid · TermPieces: laid · TermRight: laid · TermTypes: laid · TermClears: laid · TermResizes: laid · TermNone: laid.
  DERIVED. THE GIVEN ROWS OF THIS SEAT. 7 by the template 'for every input the law returns true; each argument reads behind the call as it read before'; 0 by the template 'total and deterministic' (their statements: YtefpalmihdbmiaaDoorTotals.lean).
  GIVEN WITH THE SEED: the statements are not yours to turn. If you find one false, say at which input.
  Laid BY PROGRAM, IN A SANDBOX (cutbox-rows.mjs): the forced cells as the released guide's own fill.sh prints them over the translation 4daa97a6e5bf6548… (all of the seat's roots in one cut). By AI agents, Wed Nov 11 2026. No macro, syntax, notation, axiom, sorry.
-/
import Derived.Test.YtefpalmihdbmiaaDoorChecked
import GoSem.Claim
import GoSem.ClaimJoined
import GoSem.ClaimMapViews
import Derived.JoinedTies
import Derived.KernelRfl
namespace Go.Proofs.YtefpalmihdbmiaaDoor
/- THE CELL 'sum', in the pinned program and in every row, IS THE sha256 OF THE DUMP (.gsa) THAT YtefpalmihdbmiaaDoorProg.lean LOADS. Nothing in Lean hashes anything: it is a label: what it is worth is what the hold of that sum in a sandbox is worth. -/
noncomputable def Tryd.pinned : Pinned := { name := "ytefpalmihdbmiaadoor", sum := "4daa97a6e5bf65487f310f29a283f4add8a7c3cffddecdd6cfa761bf5d3479ea", checked := Tryd.checked }
namespace Rows
def none {H : Type} : Left H := { results := [], args := [] }

/- WHAT THE LISTED PACKAGE-LEVEL VARIABLES READ AS WHEN THE CALL BEGINS. Each datum BY PROGRAM (the guide's laid-datum.mjs) off the statement by which the dump's own 'gosem.cut.vars' lays the variable. In a bare row this is a premise. The card (YtefpalmihdbmiaaDoorCards.lean) ties it to the program's text. -/
def laid_inkhorn_cell_ranges {H : Type} : DataW H := .slice [.agg [.lit (.int .i32 0), .lit (.int .i32 31), .lit (.int .i32 2)], .agg [.lit (.int .i32 127), .lit (.int .i32 127), .lit (.int .i32 2)], .agg [.lit (.int .i32 768), .lit (.int .i32 879), .lit (.int .i32 0)], .agg [.lit (.int .i32 4352), .lit (.int .i32 4447), .lit (.int .i32 2)], .agg [.lit (.int .i32 8203), .lit (.int .i32 8207), .lit (.int .i32 0)], .agg [.lit (.int .i32 8400), .lit (.int .i32 8447), .lit (.int .i32 0)], .agg [.lit (.int .i32 11904), .lit (.int .i32 12350), .lit (.int .i32 2)], .agg [.lit (.int .i32 12353), .lit (.int .i32 19903), .lit (.int .i32 2)], .agg [.lit (.int .i32 19968), .lit (.int .i32 42191), .lit (.int .i32 2)], .agg [.lit (.int .i32 44032), .lit (.int .i32 55203), .lit (.int .i32 2)], .agg [.lit (.int .i32 63744), .lit (.int .i32 64255), .lit (.int .i32 2)], .agg [.lit (.int .i32 65024), .lit (.int .i32 65039), .lit (.int .i32 0)], .agg [.lit (.int .i32 65072), .lit (.int .i32 65135), .lit (.int .i32 2)], .agg [.lit (.int .i32 65280), .lit (.int .i32 65376), .lit (.int .i32 2)], .agg [.lit (.int .i32 65504), .lit (.int .i32 65510), .lit (.int .i32 2)], .agg [.lit (.int .i32 127744), .lit (.int .i32 128591), .lit (.int .i32 2)], .agg [.lit (.int .i32 129280), .lit (.int .i32 129535), .lit (.int .i32 2)], .agg [.lit (.int .i32 131072), .lit (.int .i32 262141), .lit (.int .i32 2)]] []

/-- 'inkhornlaw21.TermWrites': WHATEVER THE INPUT: true; the input reads as it did. -/
def termWritesSpec : ChangeSpec := { name := "termWrites", fn := fun _ => fun
  | [d1, d2] => { results := [.lit (.bool true)], args := [d1, d2] }
  | _ => none }
def termWritesRow : OpenClaim := { program := "ytefpalmihdbmiaadoor", sum := "4daa97a6e5bf65487f310f29a283f4add8a7c3cffddecdd6cfa761bf5d3479ea", func := "inkhorn/inkhornlaw21.TermWrites", spec := "termWrites", unfollowed := true, recurses := true, named := ["inkhorn/cell.ranges"], apart := false, laid := [("inkhorn/cell.ranges", laid_inkhorn_cell_ranges)] }
def TermWritesSaid : Prop := termWritesRow.holds Tryd.pinned (OpenSpec.ofChange termWritesSpec)

/-- ITS FALSE NEIGHBOUR: 'it returns false'. Refute it at one input. -/
def termWritesWrong : ChangeSpec := { name := "termWrites", fn := fun _ => fun
  | [d1, d2] => { results := [.lit (.bool false)], args := [d1, d2] }
  | _ => none }
def TermWritesWrongFalsely : Prop := termWritesRow.holds Tryd.pinned (OpenSpec.ofChange termWritesWrong)

/-- 'inkhornlaw21.TermPieces': WHATEVER THE INPUT: true; the input reads as it did. -/
def termPiecesSpec : ChangeSpec := { name := "termPieces", fn := fun _ => fun
  | [d1, d2, d3] => { results := [.lit (.bool true)], args := [d1, d2, d3] }
  | _ => none }
def termPiecesRow : OpenClaim := { program := "ytefpalmihdbmiaadoor", sum := "4daa97a6e5bf65487f310f29a283f4add8a7c3cffddecdd6cfa761bf5d3479ea", func := "inkhorn/inkhornlaw21.TermPieces", spec := "termPieces", unfollowed := true, recurses := true, named := ["inkhorn/cell.ranges"], apart := false, laid := [("inkhorn/cell.ranges", laid_inkhorn_cell_ranges)] }
def TermPiecesSaid : Prop := termPiecesRow.holds Tryd.pinned (OpenSpec.ofChange termPiecesSpec)

/-- ITS FALSE NEIGHBOUR: 'it returns false'. Refute it at one input. -/
def termPiecesWrong : ChangeSpec := { name := "termPieces", fn := fun _ => fun
  | [d1, d2, d3] => { results := [.lit (.bool false)], args := [d1, d2, d3] }
  | _ => none }
def TermPiecesWrongFalsely : Prop := termPiecesRow.holds Tryd.pinned (OpenSpec.ofChange termPiecesWrong)

/-- 'inkhornlaw21.TermRight': WHATEVER THE INPUT: true; the input reads as it did. -/
def termRightSpec : ChangeSpec := { name := "termRight", fn := fun _ => fun
  | [d1, d2] => { results := [.lit (.bool true)], args := [d1, d2] }
  | _ => none }
def termRightRow : OpenClaim := { program := "ytefpalmihdbmiaadoor", sum := "4daa97a6e5bf65487f310f29a283f4add8a7c3cffddecdd6cfa761bf5d3479ea", func := "inkhorn/inkhornlaw21.TermRight", spec := "termRight", unfollowed := true, recurses := true, named := ["inkhorn/cell.ranges"], apart := false, laid := [("inkhorn/cell.ranges", laid_inkhorn_cell_ranges)] }
def TermRightSaid : Prop := termRightRow.holds Tryd.pinned (OpenSpec.ofChange termRightSpec)

/-- ITS FALSE NEIGHBOUR: 'it returns false'. Refute it at one input. -/
def termRightWrong : ChangeSpec := { name := "termRight", fn := fun _ => fun
  | [d1, d2] => { results := [.lit (.bool false)], args := [d1, d2] }
  | _ => none }
def TermRightWrongFalsely : Prop := termRightRow.holds Tryd.pinned (OpenSpec.ofChange termRightWrong)

/-- 'inkhornlaw21.TermTypes': WHATEVER THE INPUT: true; the input reads as it did. -/
def termTypesSpec : ChangeSpec := { name := "termTypes", fn := fun _ => fun
  | [d1, d2, d3, d4] => { results := [.lit (.bool true)], args := [d1, d2, d3, d4] }
  | _ => none }
def termTypesRow : OpenClaim := { program := "ytefpalmihdbmiaadoor", sum := "4daa97a6e5bf65487f310f29a283f4add8a7c3cffddecdd6cfa761bf5d3479ea", func := "inkhorn/inkhornlaw21.TermTypes", spec := "termTypes", unfollowed := true, recurses := true, named := ["inkhorn/cell.ranges"], apart := false, laid := [("inkhorn/cell.ranges", laid_inkhorn_cell_ranges)] }
def TermTypesSaid : Prop := termTypesRow.holds Tryd.pinned (OpenSpec.ofChange termTypesSpec)

/-- ITS FALSE NEIGHBOUR: 'it returns false'. Refute it at one input. -/
def termTypesWrong : ChangeSpec := { name := "termTypes", fn := fun _ => fun
  | [d1, d2, d3, d4] => { results := [.lit (.bool false)], args := [d1, d2, d3, d4] }
  | _ => none }
def TermTypesWrongFalsely : Prop := termTypesRow.holds Tryd.pinned (OpenSpec.ofChange termTypesWrong)

/-- 'inkhornlaw21.TermClears': WHATEVER THE INPUT: true; the input reads as it did. -/
def termClearsSpec : ChangeSpec := { name := "termClears", fn := fun _ => fun
  | [d1, d2] => { results := [.lit (.bool true)], args := [d1, d2] }
  | _ => none }
def termClearsRow : OpenClaim := { program := "ytefpalmihdbmiaadoor", sum := "4daa97a6e5bf65487f310f29a283f4add8a7c3cffddecdd6cfa761bf5d3479ea", func := "inkhorn/inkhornlaw21.TermClears", spec := "termClears", unfollowed := true, recurses := true, named := ["inkhorn/cell.ranges"], apart := false, laid := [("inkhorn/cell.ranges", laid_inkhorn_cell_ranges)] }
def TermClearsSaid : Prop := termClearsRow.holds Tryd.pinned (OpenSpec.ofChange termClearsSpec)

/-- ITS FALSE NEIGHBOUR: 'it returns false'. Refute it at one input. -/
def termClearsWrong : ChangeSpec := { name := "termClears", fn := fun _ => fun
  | [d1, d2] => { results := [.lit (.bool false)], args := [d1, d2] }
  | _ => none }
def TermClearsWrongFalsely : Prop := termClearsRow.holds Tryd.pinned (OpenSpec.ofChange termClearsWrong)

/-- 'inkhornlaw21.TermResizes': WHATEVER THE INPUT: true; the input reads as it did. -/
def termResizesSpec : ChangeSpec := { name := "termResizes", fn := fun _ => fun
  | [d1, d2, d3, d4] => { results := [.lit (.bool true)], args := [d1, d2, d3, d4] }
  | _ => none }
def termResizesRow : OpenClaim := { program := "ytefpalmihdbmiaadoor", sum := "4daa97a6e5bf65487f310f29a283f4add8a7c3cffddecdd6cfa761bf5d3479ea", func := "inkhorn/inkhornlaw21.TermResizes", spec := "termResizes", unfollowed := true, recurses := true, named := ["inkhorn/cell.ranges"], apart := false, laid := [("inkhorn/cell.ranges", laid_inkhorn_cell_ranges)] }
def TermResizesSaid : Prop := termResizesRow.holds Tryd.pinned (OpenSpec.ofChange termResizesSpec)

/-- ITS FALSE NEIGHBOUR: 'it returns false'. Refute it at one input. -/
def termResizesWrong : ChangeSpec := { name := "termResizes", fn := fun _ => fun
  | [d1, d2, d3, d4] => { results := [.lit (.bool false)], args := [d1, d2, d3, d4] }
  | _ => none }
def TermResizesWrongFalsely : Prop := termResizesRow.holds Tryd.pinned (OpenSpec.ofChange termResizesWrong)

/-- 'inkhornlaw21.TermNone': WHATEVER THE INPUT: true; the input reads as it did. -/
def termNoneSpec : ChangeSpec := { name := "termNone", fn := fun _ => fun
  | [d1, d2] => { results := [.lit (.bool true)], args := [d1, d2] }
  | _ => none }
def termNoneRow : OpenClaim := { program := "ytefpalmihdbmiaadoor", sum := "4daa97a6e5bf65487f310f29a283f4add8a7c3cffddecdd6cfa761bf5d3479ea", func := "inkhorn/inkhornlaw21.TermNone", spec := "termNone", unfollowed := true, recurses := true, named := ["inkhorn/cell.ranges"], apart := false, laid := [("inkhorn/cell.ranges", laid_inkhorn_cell_ranges)] }
def TermNoneSaid : Prop := termNoneRow.holds Tryd.pinned (OpenSpec.ofChange termNoneSpec)

/-- ITS FALSE NEIGHBOUR: 'it returns false'. Refute it at one input. -/
def termNoneWrong : ChangeSpec := { name := "termNone", fn := fun _ => fun
  | [d1, d2] => { results := [.lit (.bool false)], args := [d1, d2] }
  | _ => none }
def TermNoneWrongFalsely : Prop := termNoneRow.holds Tryd.pinned (OpenSpec.ofChange termNoneWrong)

/- THE SECOND FORM. 'bulk': how many values and letters a reading holds, each counted each time it is reached (what is shared counts as often as it is met; a slice's spare places count too). A statement '..UptoSaid' is the law's where the arguments, and the package variables that the reading takes, are together of bulk at most 1048576: NARROWER than '..Said'. Prove '..Said' where nothing that the law and all that it calls make is longer than what came in: it says more and counts as full. Else prove '..UptoSaid'. A law counts once. -/
mutual
def uptoBulk {H : Type} : DataW H → Nat
  | .lit (.string bytes) => bytes.length + 1
  | .lit _ => 1
  | .nil => 1
  | .ptr d => uptoBulk d + 1
  | .slice elems spare => uptoBulkAll elems + uptoBulkAll spare + 1
  | .agg parts => uptoBulkAll parts + 1
  | .iface _ d => uptoBulk d + 1
  | .map entries => uptoBulkEntries entries + 1
  | .held _ => 1
def uptoBulkAll {H : Type} : List (DataW H) → Nat
  | [] => 0
  | d :: r => uptoBulk d + uptoBulkAll r
def uptoBulkEntries {H : Type} : List (Lit × DataW H) → Nat
  | [] => 0
  | x :: r => uptoBulkEntry x + uptoBulkEntries r
def uptoBulkEntry {H : Type} : Lit × DataW H → Nat
  | (.string bytes, d) => bytes.length + uptoBulk d + 1
  | (_, d) => uptoBulk d + 1
 end
def uptoSmall : (H : Type) → List (DataW H) → Bool := fun _ ds => decide (uptoBulkAll ds ≤ 1048576)
def OpenSpec.upto (s : _root_.Go.ChangeSpec) : _root_.Go.OpenSpec := { _root_.Go.OpenSpec.ofChange s with cond := some uptoSmall }

/-- 'inkhornlaw21.TermWrites', WHERE WHAT IT READS IS OF BULK AT MOST 1048576: true; the input reads as it did. -/
def termWritesUptoRow : OpenClaim := { program := "ytefpalmihdbmiaadoor", sum := "4daa97a6e5bf65487f310f29a283f4add8a7c3cffddecdd6cfa761bf5d3479ea", func := "inkhorn/inkhornlaw21.TermWrites", spec := "termWrites", unfollowed := true, recurses := true, named := ["inkhorn/cell.ranges"], apart := false, laid := [("inkhorn/cell.ranges", laid_inkhorn_cell_ranges)], narrowed := true }
def TermWritesUptoSaid : Prop := termWritesUptoRow.holds Tryd.pinned (OpenSpec.upto termWritesSpec)

/-- 'inkhornlaw21.TermPieces', WHERE WHAT IT READS IS OF BULK AT MOST 1048576: true; the input reads as it did. -/
def termPiecesUptoRow : OpenClaim := { program := "ytefpalmihdbmiaadoor", sum := "4daa97a6e5bf65487f310f29a283f4add8a7c3cffddecdd6cfa761bf5d3479ea", func := "inkhorn/inkhornlaw21.TermPieces", spec := "termPieces", unfollowed := true, recurses := true, named := ["inkhorn/cell.ranges"], apart := false, laid := [("inkhorn/cell.ranges", laid_inkhorn_cell_ranges)], narrowed := true }
def TermPiecesUptoSaid : Prop := termPiecesUptoRow.holds Tryd.pinned (OpenSpec.upto termPiecesSpec)

/-- 'inkhornlaw21.TermRight', WHERE WHAT IT READS IS OF BULK AT MOST 1048576: true; the input reads as it did. -/
def termRightUptoRow : OpenClaim := { program := "ytefpalmihdbmiaadoor", sum := "4daa97a6e5bf65487f310f29a283f4add8a7c3cffddecdd6cfa761bf5d3479ea", func := "inkhorn/inkhornlaw21.TermRight", spec := "termRight", unfollowed := true, recurses := true, named := ["inkhorn/cell.ranges"], apart := false, laid := [("inkhorn/cell.ranges", laid_inkhorn_cell_ranges)], narrowed := true }
def TermRightUptoSaid : Prop := termRightUptoRow.holds Tryd.pinned (OpenSpec.upto termRightSpec)

/-- 'inkhornlaw21.TermTypes', WHERE WHAT IT READS IS OF BULK AT MOST 1048576: true; the input reads as it did. -/
def termTypesUptoRow : OpenClaim := { program := "ytefpalmihdbmiaadoor", sum := "4daa97a6e5bf65487f310f29a283f4add8a7c3cffddecdd6cfa761bf5d3479ea", func := "inkhorn/inkhornlaw21.TermTypes", spec := "termTypes", unfollowed := true, recurses := true, named := ["inkhorn/cell.ranges"], apart := false, laid := [("inkhorn/cell.ranges", laid_inkhorn_cell_ranges)], narrowed := true }
def TermTypesUptoSaid : Prop := termTypesUptoRow.holds Tryd.pinned (OpenSpec.upto termTypesSpec)

/-- 'inkhornlaw21.TermClears', WHERE WHAT IT READS IS OF BULK AT MOST 1048576: true; the input reads as it did. -/
def termClearsUptoRow : OpenClaim := { program := "ytefpalmihdbmiaadoor", sum := "4daa97a6e5bf65487f310f29a283f4add8a7c3cffddecdd6cfa761bf5d3479ea", func := "inkhorn/inkhornlaw21.TermClears", spec := "termClears", unfollowed := true, recurses := true, named := ["inkhorn/cell.ranges"], apart := false, laid := [("inkhorn/cell.ranges", laid_inkhorn_cell_ranges)], narrowed := true }
def TermClearsUptoSaid : Prop := termClearsUptoRow.holds Tryd.pinned (OpenSpec.upto termClearsSpec)

/-- 'inkhornlaw21.TermResizes', WHERE WHAT IT READS IS OF BULK AT MOST 1048576: true; the input reads as it did. -/
def termResizesUptoRow : OpenClaim := { program := "ytefpalmihdbmiaadoor", sum := "4daa97a6e5bf65487f310f29a283f4add8a7c3cffddecdd6cfa761bf5d3479ea", func := "inkhorn/inkhornlaw21.TermResizes", spec := "termResizes", unfollowed := true, recurses := true, named := ["inkhorn/cell.ranges"], apart := false, laid := [("inkhorn/cell.ranges", laid_inkhorn_cell_ranges)], narrowed := true }
def TermResizesUptoSaid : Prop := termResizesUptoRow.holds Tryd.pinned (OpenSpec.upto termResizesSpec)

/-- 'inkhornlaw21.TermNone', WHERE WHAT IT READS IS OF BULK AT MOST 1048576: true; the input reads as it did. -/
def termNoneUptoRow : OpenClaim := { program := "ytefpalmihdbmiaadoor", sum := "4daa97a6e5bf65487f310f29a283f4add8a7c3cffddecdd6cfa761bf5d3479ea", func := "inkhorn/inkhornlaw21.TermNone", spec := "termNone", unfollowed := true, recurses := true, named := ["inkhorn/cell.ranges"], apart := false, laid := [("inkhorn/cell.ranges", laid_inkhorn_cell_ranges)], narrowed := true }
def TermNoneUptoSaid : Prop := termNoneUptoRow.holds Tryd.pinned (OpenSpec.upto termNoneSpec)

end Rows
end Go.Proofs.YtefpalmihdbmiaaDoor
