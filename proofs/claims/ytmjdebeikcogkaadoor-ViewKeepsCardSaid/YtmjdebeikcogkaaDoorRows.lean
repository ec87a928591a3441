/-
  NARROWER THAN 'FOR EVERY INPUT', by the rows' own cells (each row's printed sentence says how): ViewRows: laid · ViewFinds: laid · ViewWhole: laid · ViewKeeps: laid · ViewLefts: laid · ViewShows: laid.
  DERIVED. THE GIVEN ROWS OF THIS SEAT. 6 by the template 'for every input the law returns true; each argument reads behind the call as it read before'; 0 by the template 'total and deterministic' (their statements: YtmjdebeikcogkaaDoorTotals.lean).
  GIVEN WITH THE SEED: the statements are not yours to turn. If you find one false, say at which input.
  Laid BY PROGRAM, IN A SANDBOX (cutbox-rows.mjs): the forced cells as the released guide's own fill.sh prints them over the translation c602f0fa6bf63c2c… (all of the seat's roots in one cut). By AI agents, Wed Nov 11 2026. No macro, syntax, notation, axiom, sorry.
-/
import Derived.Test.YtmjdebeikcogkaaDoorChecked
import GoSem.Claim
import GoSem.ClaimJoined
import GoSem.ClaimMapViews
import Derived.JoinedTies
import Derived.KernelRfl
namespace Go.Proofs.YtmjdebeikcogkaaDoor
/- THE CELL 'sum', in the pinned program and in every row, IS THE sha256 OF THE DUMP (.gsa) THAT YtmjdebeikcogkaaDoorProg.lean LOADS. Nothing in Lean hashes anything: it is a label: what it is worth is what the hold of that sum in a sandbox is worth. -/
noncomputable def Tryd.pinned : Pinned := { name := "ytmjdebeikcogkaadoor", sum := "c602f0fa6bf63c2c2b7f1126a52422a3949e79dd0dde52c1ac706b9a12de7866", checked := Tryd.checked }
namespace Rows
def none {H : Type} : Left H := { results := [], args := [] }

/- WHAT THE LISTED PACKAGE-LEVEL VARIABLES READ AS WHEN THE CALL BEGINS. Each datum BY PROGRAM (the guide's laid-datum.mjs) off the statement by which the dump's own 'gosem.cut.vars' lays the variable. In a bare row this is a premise. The card (YtmjdebeikcogkaaDoorCards.lean) ties it to the program's text. -/
def laid_inkhorn_cell_ranges {H : Type} : DataW H := .slice [.agg [.lit (.int .i32 0), .lit (.int .i32 31), .lit (.int .i32 2)], .agg [.lit (.int .i32 127), .lit (.int .i32 127), .lit (.int .i32 2)], .agg [.lit (.int .i32 768), .lit (.int .i32 879), .lit (.int .i32 0)], .agg [.lit (.int .i32 4352), .lit (.int .i32 4447), .lit (.int .i32 2)], .agg [.lit (.int .i32 8203), .lit (.int .i32 8207), .lit (.int .i32 0)], .agg [.lit (.int .i32 8400), .lit (.int .i32 8447), .lit (.int .i32 0)], .agg [.lit (.int .i32 11904), .lit (.int .i32 12350), .lit (.int .i32 2)], .agg [.lit (.int .i32 12353), .lit (.int .i32 19903), .lit (.int .i32 2)], .agg [.lit (.int .i32 19968), .lit (.int .i32 42191), .lit (.int .i32 2)], .agg [.lit (.int .i32 44032), .lit (.int .i32 55203), .lit (.int .i32 2)], .agg [.lit (.int .i32 63744), .lit (.int .i32 64255), .lit (.int .i32 2)], .agg [.lit (.int .i32 65024), .lit (.int .i32 65039), .lit (.int .i32 0)], .agg [.lit (.int .i32 65072), .lit (.int .i32 65135), .lit (.int .i32 2)], .agg [.lit (.int .i32 65280), .lit (.int .i32 65376), .lit (.int .i32 2)], .agg [.lit (.int .i32 65504), .lit (.int .i32 65510), .lit (.int .i32 2)], .agg [.lit (.int .i32 127744), .lit (.int .i32 128591), .lit (.int .i32 2)], .agg [.lit (.int .i32 129280), .lit (.int .i32 129535), .lit (.int .i32 2)], .agg [.lit (.int .i32 131072), .lit (.int .i32 262141), .lit (.int .i32 2)]] []

/-- 'inkhornlaw19.ViewRows': WHATEVER THE INPUT: true; the input reads as it did. -/
def viewRowsSpec : ChangeSpec := { name := "viewRows", fn := fun _ => fun
  | [d1, d2] => { results := [.lit (.bool true)], args := [d1, d2] }
  | _ => none }
def viewRowsRow : OpenClaim := { program := "ytmjdebeikcogkaadoor", sum := "c602f0fa6bf63c2c2b7f1126a52422a3949e79dd0dde52c1ac706b9a12de7866", func := "inkhorn/inkhornlaw19.ViewRows", spec := "viewRows", unfollowed := true, recurses := true, named := ["inkhorn/cell.ranges"], apart := false, laid := [("inkhorn/cell.ranges", laid_inkhorn_cell_ranges)] }
def ViewRowsSaid : Prop := viewRowsRow.holds Tryd.pinned (OpenSpec.ofChange viewRowsSpec)

/-- ITS FALSE NEIGHBOUR: 'it returns false'. Refute it at one input. -/
def viewRowsWrong : ChangeSpec := { name := "viewRows", fn := fun _ => fun
  | [d1, d2] => { results := [.lit (.bool false)], args := [d1, d2] }
  | _ => none }
def ViewRowsWrongFalsely : Prop := viewRowsRow.holds Tryd.pinned (OpenSpec.ofChange viewRowsWrong)

/-- 'inkhornlaw19.ViewFinds': WHATEVER THE INPUT: true; the input reads as it did. -/
def viewFindsSpec : ChangeSpec := { name := "viewFinds", fn := fun _ => fun
  | [d1, d2, d3] => { results := [.lit (.bool true)], args := [d1, d2, d3] }
  | _ => none }
def viewFindsRow : OpenClaim := { program := "ytmjdebeikcogkaadoor", sum := "c602f0fa6bf63c2c2b7f1126a52422a3949e79dd0dde52c1ac706b9a12de7866", func := "inkhorn/inkhornlaw19.ViewFinds", spec := "viewFinds", unfollowed := true, recurses := true, named := ["inkhorn/cell.ranges"], apart := false, laid := [("inkhorn/cell.ranges", laid_inkhorn_cell_ranges)] }
def ViewFindsSaid : Prop := viewFindsRow.holds Tryd.pinned (OpenSpec.ofChange viewFindsSpec)

/-- ITS FALSE NEIGHBOUR: 'it returns false'. Refute it at one input. -/
def viewFindsWrong : ChangeSpec := { name := "viewFinds", fn := fun _ => fun
  | [d1, d2, d3] => { results := [.lit (.bool false)], args := [d1, d2, d3] }
  | _ => none }
def ViewFindsWrongFalsely : Prop := viewFindsRow.holds Tryd.pinned (OpenSpec.ofChange viewFindsWrong)

/-- 'inkhornlaw19.ViewWhole': WHATEVER THE INPUT: true; the input reads as it did. -/
def viewWholeSpec : ChangeSpec := { name := "viewWhole", fn := fun _ => fun
  | [d1, d2] => { results := [.lit (.bool true)], args := [d1, d2] }
  | _ => none }
def viewWholeRow : OpenClaim := { program := "ytmjdebeikcogkaadoor", sum := "c602f0fa6bf63c2c2b7f1126a52422a3949e79dd0dde52c1ac706b9a12de7866", func := "inkhorn/inkhornlaw19.ViewWhole", spec := "viewWhole", unfollowed := true, recurses := true, named := ["inkhorn/cell.ranges"], apart := false, laid := [("inkhorn/cell.ranges", laid_inkhorn_cell_ranges)] }
def ViewWholeSaid : Prop := viewWholeRow.holds Tryd.pinned (OpenSpec.ofChange viewWholeSpec)

/-- ITS FALSE NEIGHBOUR: 'it returns false'. Refute it at one input. -/
def viewWholeWrong : ChangeSpec := { name := "viewWhole", fn := fun _ => fun
  | [d1, d2] => { results := [.lit (.bool false)], args := [d1, d2] }
  | _ => none }
def ViewWholeWrongFalsely : Prop := viewWholeRow.holds Tryd.pinned (OpenSpec.ofChange viewWholeWrong)

/-- 'inkhornlaw19.ViewKeeps': WHATEVER THE INPUT: true; the input reads as it did. -/
def viewKeepsSpec : ChangeSpec := { name := "viewKeeps", fn := fun _ => fun
  | [d] => { results := [.lit (.bool true)], args := [d] }
  | _ => none }
def viewKeepsRow : OpenClaim := { program := "ytmjdebeikcogkaadoor", sum := "c602f0fa6bf63c2c2b7f1126a52422a3949e79dd0dde52c1ac706b9a12de7866", func := "inkhorn/inkhornlaw19.ViewKeeps", spec := "viewKeeps", unfollowed := true, recurses := true, named := ["inkhorn/cell.ranges"], apart := false, laid := [("inkhorn/cell.ranges", laid_inkhorn_cell_ranges)] }
def ViewKeepsSaid : Prop := viewKeepsRow.holds Tryd.pinned (OpenSpec.ofChange viewKeepsSpec)

/-- ITS FALSE NEIGHBOUR: 'it returns false'. Refute it at one input. -/
def viewKeepsWrong : ChangeSpec := { name := "viewKeeps", fn := fun _ => fun
  | [d] => { results := [.lit (.bool false)], args := [d] }
  | _ => none }
def ViewKeepsWrongFalsely : Prop := viewKeepsRow.holds Tryd.pinned (OpenSpec.ofChange viewKeepsWrong)

/-- 'inkhornlaw19.ViewLefts': WHATEVER THE INPUT: true; the input reads as it did. -/
def viewLeftsSpec : ChangeSpec := { name := "viewLefts", fn := fun _ => fun
  | [d] => { results := [.lit (.bool true)], args := [d] }
  | _ => none }
def viewLeftsRow : OpenClaim := { program := "ytmjdebeikcogkaadoor", sum := "c602f0fa6bf63c2c2b7f1126a52422a3949e79dd0dde52c1ac706b9a12de7866", func := "inkhorn/inkhornlaw19.ViewLefts", spec := "viewLefts", unfollowed := true, recurses := true, named := ["inkhorn/cell.ranges"], apart := false, laid := [("inkhorn/cell.ranges", laid_inkhorn_cell_ranges)] }
def ViewLeftsSaid : Prop := viewLeftsRow.holds Tryd.pinned (OpenSpec.ofChange viewLeftsSpec)

/-- ITS FALSE NEIGHBOUR: 'it returns false'. Refute it at one input. -/
def viewLeftsWrong : ChangeSpec := { name := "viewLefts", fn := fun _ => fun
  | [d] => { results := [.lit (.bool false)], args := [d] }
  | _ => none }
def ViewLeftsWrongFalsely : Prop := viewLeftsRow.holds Tryd.pinned (OpenSpec.ofChange viewLeftsWrong)

/-- 'inkhornlaw19.ViewShows': WHATEVER THE INPUT: true; the input reads as it did. -/
def viewShowsSpec : ChangeSpec := { name := "viewShows", fn := fun _ => fun
  | [d1, d2, d3] => { results := [.lit (.bool true)], args := [d1, d2, d3] }
  | _ => none }
def viewShowsRow : OpenClaim := { program := "ytmjdebeikcogkaadoor", sum := "c602f0fa6bf63c2c2b7f1126a52422a3949e79dd0dde52c1ac706b9a12de7866", func := "inkhorn/inkhornlaw19.ViewShows", spec := "viewShows", unfollowed := true, recurses := true, named := ["inkhorn/cell.ranges"], apart := false, laid := [("inkhorn/cell.ranges", laid_inkhorn_cell_ranges)] }
def ViewShowsSaid : Prop := viewShowsRow.holds Tryd.pinned (OpenSpec.ofChange viewShowsSpec)

/-- ITS FALSE NEIGHBOUR: 'it returns false'. Refute it at one input. -/
def viewShowsWrong : ChangeSpec := { name := "viewShows", fn := fun _ => fun
  | [d1, d2, d3] => { results := [.lit (.bool false)], args := [d1, d2, d3] }
  | _ => none }
def ViewShowsWrongFalsely : Prop := viewShowsRow.holds Tryd.pinned (OpenSpec.ofChange viewShowsWrong)

/- THE SECOND FORM. 'bulk': how many values and letters a reading holds, each counted each time it is reached (what is shared counts as often as it is met; a slice's spare places count too). A statement '..UptoSaid' is the law's where the arguments, and the package variables that the reading takes, are together of bulk at most 1048576: NARROWER than '..Said'. Prove '..Said' where nothing that the law and all that it calls make is longer than what came in: it says more and counts as full. Else prove '..UptoSaid'. A law counts once. -/
mutual
def uptoBulk {H : Type} : DataW H → Nat
  | .lit (.string bytes) => bytes.length + 1
  | .lit _ => 1
  | .nil => 1
  | .ptr d => uptoBulk d + 1
  | .slice elems spare => uptoBulkAll elems + uptoBulkAll spare + 1
  | .agg parts => uptoBulkAll parts + 1
  | .iface _ d => uptoBulk d + 1
  | .map entries => uptoBulkEntries entries + 1
  | .held _ => 1
def uptoBulkAll {H : Type} : List (DataW H) → Nat
  | [] => 0
  | d :: r => uptoBulk d + uptoBulkAll r
def uptoBulkEntries {H : Type} : List (Lit × DataW H) → Nat
  | [] => 0
  | x :: r => uptoBulkEntry x + uptoBulkEntries r
def uptoBulkEntry {H : Type} : Lit × DataW H → Nat
  | (.string bytes, d) => bytes.length + uptoBulk d + 1
  | (_, d) => uptoBulk d + 1
 end
def uptoSmall : (H : Type) → List (DataW H) → Bool := fun _ ds => decide (uptoBulkAll ds ≤ 1048576)
def OpenSpec.upto (s : _root_.Go.ChangeSpec) : _root_.Go.OpenSpec := { _root_.Go.OpenSpec.ofChange s with cond := some uptoSmall }

/-- 'inkhornlaw19.ViewRows', WHERE WHAT IT READS IS OF BULK AT MOST 1048576: true; the input reads as it did. -/
def viewRowsUptoRow : OpenClaim := { program := "ytmjdebeikcogkaadoor", sum := "c602f0fa6bf63c2c2b7f1126a52422a3949e79dd0dde52c1ac706b9a12de7866", func := "inkhorn/inkhornlaw19.ViewRows", spec := "viewRows", unfollowed := true, recurses := true, named := ["inkhorn/cell.ranges"], apart := false, laid := [("inkhorn/cell.ranges", laid_inkhorn_cell_ranges)], narrowed := true }
def ViewRowsUptoSaid : Prop := viewRowsUptoRow.holds Tryd.pinned (OpenSpec.upto viewRowsSpec)

/-- 'inkhornlaw19.ViewFinds', WHERE WHAT IT READS IS OF BULK AT MOST 1048576: true; the input reads as it did. -/
def viewFindsUptoRow : OpenClaim := { program := "ytmjdebeikcogkaadoor", sum := "c602f0fa6bf63c2c2b7f1126a52422a3949e79dd0dde52c1ac706b9a12de7866", func := "inkhorn/inkhornlaw19.ViewFinds", spec := "viewFinds", unfollowed := true, recurses := true, named := ["inkhorn/cell.ranges"], apart := false, laid := [("inkhorn/cell.ranges", laid_inkhorn_cell_ranges)], narrowed := true }
def ViewFindsUptoSaid : Prop := viewFindsUptoRow.holds Tryd.pinned (OpenSpec.upto viewFindsSpec)

/-- 'inkhornlaw19.ViewWhole', WHERE WHAT IT READS IS OF BULK AT MOST 1048576: true; the input reads as it did. -/
def viewWholeUptoRow : OpenClaim := { program := "ytmjdebeikcogkaadoor", sum := "c602f0fa6bf63c2c2b7f1126a52422a3949e79dd0dde52c1ac706b9a12de7866", func := "inkhorn/inkhornlaw19.ViewWhole", spec := "viewWhole", unfollowed := true, recurses := true, named := ["inkhorn/cell.ranges"], apart := false, laid := [("inkhorn/cell.ranges", laid_inkhorn_cell_ranges)], narrowed := true }
def ViewWholeUptoSaid : Prop := viewWholeUptoRow.holds Tryd.pinned (OpenSpec.upto viewWholeSpec)

/-- 'inkhornlaw19.ViewKeeps', WHERE WHAT IT READS IS OF BULK AT MOST 1048576: true; the input reads as it did. -/
def viewKeepsUptoRow : OpenClaim := { program := "ytmjdebeikcogkaadoor", sum := "c602f0fa6bf63c2c2b7f1126a52422a3949e79dd0dde52c1ac706b9a12de7866", func := "inkhorn/inkhornlaw19.ViewKeeps", spec := "viewKeeps", unfollowed := true, recurses := true, named := ["inkhorn/cell.ranges"], apart := false, laid := [("inkhorn/cell.ranges", laid_inkhorn_cell_ranges)], narrowed := true }
def ViewKeepsUptoSaid : Prop := viewKeepsUptoRow.holds Tryd.pinned (OpenSpec.upto viewKeepsSpec)

/-- 'inkhornlaw19.ViewLefts', WHERE WHAT IT READS IS OF BULK AT MOST 1048576: true; the input reads as it did. -/
def viewLeftsUptoRow : OpenClaim := { program := "ytmjdebeikcogkaadoor", sum := "c602f0fa6bf63c2c2b7f1126a52422a3949e79dd0dde52c1ac706b9a12de7866", func := "inkhorn/inkhornlaw19.ViewLefts", spec := "viewLefts", unfollowed := true, recurses := true, named := ["inkhorn/cell.ranges"], apart := false, laid := [("inkhorn/cell.ranges", laid_inkhorn_cell_ranges)], narrowed := true }
def ViewLeftsUptoSaid : Prop := viewLeftsUptoRow.holds Tryd.pinned (OpenSpec.upto viewLeftsSpec)

/-- 'inkhornlaw19.ViewShows', WHERE WHAT IT READS IS OF BULK AT MOST 1048576: true; the input reads as it did. -/
def viewShowsUptoRow : OpenClaim := { program := "ytmjdebeikcogkaadoor", sum := "c602f0fa6bf63c2c2b7f1126a52422a3949e79dd0dde52c1ac706b9a12de7866", func := "inkhorn/inkhornlaw19.ViewShows", spec := "viewShows", unfollowed := true, recurses := true, named := ["inkhorn/cell.ranges"], apart := false, laid := [("inkhorn/cell.ranges", laid_inkhorn_cell_ranges)], narrowed := true }
def ViewShowsUptoSaid : Prop := viewShowsUptoRow.holds Tryd.pinned (OpenSpec.upto viewShowsSpec)

end Rows
end Go.Proofs.YtmjdebeikcogkaaDoor
