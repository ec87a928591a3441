/-
  NARROWER THAN 'FOR EVERY INPUT', by the rows' own cells (each row's printed sentence says how): EmitShows: laid · EmitFew: laid · EmitForms: laid · EmitNothing: laid · EmitGoes: laid.
  DERIVED. THE GIVEN ROWS OF THIS SEAT. 5 by the template 'for every input the law returns true; each argument reads behind the call as it read before'; 0 by the template 'total and deterministic' (their statements: YthmpaddhmgnkbaaDoorTotals.lean).
  GIVEN WITH THE SEED: the statements are not yours to turn. If you find one false, say at which input.
  Laid BY PROGRAM, IN A SANDBOX (cutbox-rows.mjs): the forced cells as the released guide's own fill.sh prints them over the translation ee6e4c5172ea4907… (all of the seat's roots in one cut). By AI agents, Wed Nov 11 2026. No macro, syntax, notation, axiom, sorry.
-/
import Derived.Test.YthmpaddhmgnkbaaDoorChecked
import GoSem.Claim
import GoSem.ClaimJoined
import GoSem.ClaimMapViews
import Derived.JoinedTies
import Derived.KernelRfl
namespace Go.Proofs.YthmpaddhmgnkbaaDoor
/- THE CELL 'sum', in the pinned program and in every row, IS THE sha256 OF THE DUMP (.gsa) THAT YthmpaddhmgnkbaaDoorProg.lean LOADS. Nothing in Lean hashes anything: it is a label: what it is worth is what the hold of that sum in a sandbox is worth. -/
noncomputable def Tryd.pinned : Pinned := { name := "ythmpaddhmgnkbaadoor", sum := "ee6e4c5172ea4907b759d9132e9b082d69f8c43407859fa356c08b8f8ea7577f", checked := Tryd.checked }
namespace Rows
def none {H : Type} : Left H := { results := [], args := [] }

/- WHAT THE LISTED PACKAGE-LEVEL VARIABLES READ AS WHEN THE CALL BEGINS. Each datum BY PROGRAM (the guide's laid-datum.mjs) off the statement by which the dump's own 'gosem.cut.vars' lays the variable. In a bare row this is a premise. The card (YthmpaddhmgnkbaaDoorCards.lean) ties it to the program's text. -/
def laid_inkhorn_cell_ranges {H : Type} : DataW H := .slice [.agg [.lit (.int .i32 0), .lit (.int .i32 31), .lit (.int .i32 2)], .agg [.lit (.int .i32 127), .lit (.int .i32 127), .lit (.int .i32 2)], .agg [.lit (.int .i32 768), .lit (.int .i32 879), .lit (.int .i32 0)], .agg [.lit (.int .i32 4352), .lit (.int .i32 4447), .lit (.int .i32 2)], .agg [.lit (.int .i32 8203), .lit (.int .i32 8207), .lit (.int .i32 0)], .agg [.lit (.int .i32 8400), .lit (.int .i32 8447), .lit (.int .i32 0)], .agg [.lit (.int .i32 11904), .lit (.int .i32 12350), .lit (.int .i32 2)], .agg [.lit (.int .i32 12353), .lit (.int .i32 19903), .lit (.int .i32 2)], .agg [.lit (.int .i32 19968), .lit (.int .i32 42191), .lit (.int .i32 2)], .agg [.lit (.int .i32 44032), .lit (.int .i32 55203), .lit (.int .i32 2)], .agg [.lit (.int .i32 63744), .lit (.int .i32 64255), .lit (.int .i32 2)], .agg [.lit (.int .i32 65024), .lit (.int .i32 65039), .lit (.int .i32 0)], .agg [.lit (.int .i32 65072), .lit (.int .i32 65135), .lit (.int .i32 2)], .agg [.lit (.int .i32 65280), .lit (.int .i32 65376), .lit (.int .i32 2)], .agg [.lit (.int .i32 65504), .lit (.int .i32 65510), .lit (.int .i32 2)], .agg [.lit (.int .i32 127744), .lit (.int .i32 128591), .lit (.int .i32 2)], .agg [.lit (.int .i32 129280), .lit (.int .i32 129535), .lit (.int .i32 2)], .agg [.lit (.int .i32 131072), .lit (.int .i32 262141), .lit (.int .i32 2)]] []
def laid_math_bits_deBruijn32tab {H : Type} : DataW H := .agg [.lit (.int .u8 0), .lit (.int .u8 1), .lit (.int .u8 28), .lit (.int .u8 2), .lit (.int .u8 29), .lit (.int .u8 14), .lit (.int .u8 24), .lit (.int .u8 3), .lit (.int .u8 30), .lit (.int .u8 22), .lit (.int .u8 20), .lit (.int .u8 15), .lit (.int .u8 25), .lit (.int .u8 17), .lit (.int .u8 4), .lit (.int .u8 8), .lit (.int .u8 31), .lit (.int .u8 27), .lit (.int .u8 13), .lit (.int .u8 23), .lit (.int .u8 21), .lit (.int .u8 19), .lit (.int .u8 16), .lit (.int .u8 7), .lit (.int .u8 26), .lit (.int .u8 12), .lit (.int .u8 18), .lit (.int .u8 6), .lit (.int .u8 11), .lit (.int .u8 5), .lit (.int .u8 10), .lit (.int .u8 9)]
def laid_math_bits_deBruijn64tab {H : Type} : DataW H := .agg [.lit (.int .u8 0), .lit (.int .u8 1), .lit (.int .u8 56), .lit (.int .u8 2), .lit (.int .u8 57), .lit (.int .u8 49), .lit (.int .u8 28), .lit (.int .u8 3), .lit (.int .u8 61), .lit (.int .u8 58), .lit (.int .u8 42), .lit (.int .u8 50), .lit (.int .u8 38), .lit (.int .u8 29), .lit (.int .u8 17), .lit (.int .u8 4), .lit (.int .u8 62), .lit (.int .u8 47), .lit (.int .u8 59), .lit (.int .u8 36), .lit (.int .u8 45), .lit (.int .u8 43), .lit (.int .u8 51), .lit (.int .u8 22), .lit (.int .u8 53), .lit (.int .u8 39), .lit (.int .u8 33), .lit (.int .u8 30), .lit (.int .u8 24), .lit (.int .u8 18), .lit (.int .u8 12), .lit (.int .u8 5), .lit (.int .u8 63), .lit (.int .u8 55), .lit (.int .u8 48), .lit (.int .u8 27), .lit (.int .u8 60), .lit (.int .u8 41), .lit (.int .u8 37), .lit (.int .u8 16), .lit (.int .u8 46), .lit (.int .u8 35), .lit (.int .u8 44), .lit (.int .u8 21), .lit (.int .u8 52), .lit (.int .u8 32), .lit (.int .u8 23), .lit (.int .u8 11), .lit (.int .u8 54), .lit (.int .u8 26), .lit (.int .u8 40), .lit (.int .u8 15), .lit (.int .u8 34), .lit (.int .u8 20), .lit (.int .u8 31), .lit (.int .u8 10), .lit (.int .u8 25), .lit (.int .u8 14), .lit (.int .u8 19), .lit (.int .u8 9), .lit (.int .u8 13), .lit (.int .u8 8), .lit (.int .u8 7), .lit (.int .u8 6)]
def laid_internal_strconv_uint64pow10 {H : Type} : DataW H := .agg [.lit (.int .u64 1), .lit (.int .u64 10), .lit (.int .u64 100), .lit (.int .u64 1000), .lit (.int .u64 10000), .lit (.int .u64 100000), .lit (.int .u64 1000000), .lit (.int .u64 10000000), .lit (.int .u64 100000000), .lit (.int .u64 1000000000), .lit (.int .u64 10000000000), .lit (.int .u64 100000000000), .lit (.int .u64 1000000000000), .lit (.int .u64 10000000000000), .lit (.int .u64 100000000000000), .lit (.int .u64 1000000000000000), .lit (.int .u64 10000000000000000), .lit (.int .u64 100000000000000000), .lit (.int .u64 1000000000000000000), .lit (.int .u64 10000000000000000000)]

/-- 'inkhornlaw22.EmitShows': WHATEVER THE INPUT: true; the input reads as it did. -/
def emitShowsSpec : ChangeSpec := { name := "emitShows", fn := fun _ => fun
  | [d1, d2] => { results := [.lit (.bool true)], args := [d1, d2] }
  | _ => none }
def emitShowsRow : OpenClaim := { program := "ythmpaddhmgnkbaadoor", sum := "ee6e4c5172ea4907b759d9132e9b082d69f8c43407859fa356c08b8f8ea7577f", func := "inkhorn/inkhornlaw22.EmitShows", spec := "emitShows", unfollowed := true, recurses := true, named := ["inkhorn/cell.ranges", "internal/strconv.uint64pow10", "math/bits.deBruijn32tab", "math/bits.deBruijn64tab"], apart := false, laid := [("inkhorn/cell.ranges", laid_inkhorn_cell_ranges), ("math/bits.deBruijn32tab", laid_math_bits_deBruijn32tab), ("math/bits.deBruijn64tab", laid_math_bits_deBruijn64tab), ("internal/strconv.uint64pow10", laid_internal_strconv_uint64pow10)] }
def EmitShowsSaid : Prop := emitShowsRow.holds Tryd.pinned (OpenSpec.ofChange emitShowsSpec)

/-- ITS FALSE NEIGHBOUR: 'it returns false'. Refute it at one input. -/
def emitShowsWrong : ChangeSpec := { name := "emitShows", fn := fun _ => fun
  | [d1, d2] => { results := [.lit (.bool false)], args := [d1, d2] }
  | _ => none }
def EmitShowsWrongFalsely : Prop := emitShowsRow.holds Tryd.pinned (OpenSpec.ofChange emitShowsWrong)

/-- 'inkhornlaw22.EmitFew': WHATEVER THE INPUT: true; the input reads as it did. -/
def emitFewSpec : ChangeSpec := { name := "emitFew", fn := fun _ => fun
  | [d1, d2] => { results := [.lit (.bool true)], args := [d1, d2] }
  | _ => none }
def emitFewRow : OpenClaim := { program := "ythmpaddhmgnkbaadoor", sum := "ee6e4c5172ea4907b759d9132e9b082d69f8c43407859fa356c08b8f8ea7577f", func := "inkhorn/inkhornlaw22.EmitFew", spec := "emitFew", unfollowed := true, recurses := true, named := ["inkhorn/cell.ranges", "internal/strconv.uint64pow10", "math/bits.deBruijn32tab", "math/bits.deBruijn64tab"], apart := false, laid := [("inkhorn/cell.ranges", laid_inkhorn_cell_ranges), ("math/bits.deBruijn32tab", laid_math_bits_deBruijn32tab), ("math/bits.deBruijn64tab", laid_math_bits_deBruijn64tab), ("internal/strconv.uint64pow10", laid_internal_strconv_uint64pow10)] }
def EmitFewSaid : Prop := emitFewRow.holds Tryd.pinned (OpenSpec.ofChange emitFewSpec)

/-- ITS FALSE NEIGHBOUR: 'it returns false'. Refute it at one input. -/
def emitFewWrong : ChangeSpec := { name := "emitFew", fn := fun _ => fun
  | [d1, d2] => { results := [.lit (.bool false)], args := [d1, d2] }
  | _ => none }
def EmitFewWrongFalsely : Prop := emitFewRow.holds Tryd.pinned (OpenSpec.ofChange emitFewWrong)

/-- 'inkhornlaw22.EmitForms': WHATEVER THE INPUT: true; the input reads as it did. -/
def emitFormsSpec : ChangeSpec := { name := "emitForms", fn := fun _ => fun
  | [d1, d2] => { results := [.lit (.bool true)], args := [d1, d2] }
  | _ => none }
def emitFormsRow : OpenClaim := { program := "ythmpaddhmgnkbaadoor", sum := "ee6e4c5172ea4907b759d9132e9b082d69f8c43407859fa356c08b8f8ea7577f", func := "inkhorn/inkhornlaw22.EmitForms", spec := "emitForms", unfollowed := true, recurses := true, named := ["inkhorn/cell.ranges", "internal/strconv.uint64pow10", "math/bits.deBruijn32tab", "math/bits.deBruijn64tab"], apart := false, laid := [("inkhorn/cell.ranges", laid_inkhorn_cell_ranges), ("math/bits.deBruijn32tab", laid_math_bits_deBruijn32tab), ("math/bits.deBruijn64tab", laid_math_bits_deBruijn64tab), ("internal/strconv.uint64pow10", laid_internal_strconv_uint64pow10)] }
def EmitFormsSaid : Prop := emitFormsRow.holds Tryd.pinned (OpenSpec.ofChange emitFormsSpec)

/-- ITS FALSE NEIGHBOUR: 'it returns false'. Refute it at one input. -/
def emitFormsWrong : ChangeSpec := { name := "emitForms", fn := fun _ => fun
  | [d1, d2] => { results := [.lit (.bool false)], args := [d1, d2] }
  | _ => none }
def EmitFormsWrongFalsely : Prop := emitFormsRow.holds Tryd.pinned (OpenSpec.ofChange emitFormsWrong)

/-- 'inkhornlaw22.EmitNothing': WHATEVER THE INPUT: true; the input reads as it did. -/
def emitNothingSpec : ChangeSpec := { name := "emitNothing", fn := fun _ => fun
  | [d1, d2] => { results := [.lit (.bool true)], args := [d1, d2] }
  | _ => none }
def emitNothingRow : OpenClaim := { program := "ythmpaddhmgnkbaadoor", sum := "ee6e4c5172ea4907b759d9132e9b082d69f8c43407859fa356c08b8f8ea7577f", func := "inkhorn/inkhornlaw22.EmitNothing", spec := "emitNothing", unfollowed := true, recurses := true, named := ["inkhorn/cell.ranges", "internal/strconv.uint64pow10", "math/bits.deBruijn32tab", "math/bits.deBruijn64tab"], apart := false, laid := [("inkhorn/cell.ranges", laid_inkhorn_cell_ranges), ("math/bits.deBruijn32tab", laid_math_bits_deBruijn32tab), ("math/bits.deBruijn64tab", laid_math_bits_deBruijn64tab), ("internal/strconv.uint64pow10", laid_internal_strconv_uint64pow10)] }
def EmitNothingSaid : Prop := emitNothingRow.holds Tryd.pinned (OpenSpec.ofChange emitNothingSpec)

/-- ITS FALSE NEIGHBOUR: 'it returns false'. Refute it at one input. -/
def emitNothingWrong : ChangeSpec := { name := "emitNothing", fn := fun _ => fun
  | [d1, d2] => { results := [.lit (.bool false)], args := [d1, d2] }
  | _ => none }
def EmitNothingWrongFalsely : Prop := emitNothingRow.holds Tryd.pinned (OpenSpec.ofChange emitNothingWrong)

/-- 'inkhornlaw22.EmitGoes': WHATEVER THE INPUT: true; the input reads as it did. -/
def emitGoesSpec : ChangeSpec := { name := "emitGoes", fn := fun _ => fun
  | [d] => { results := [.lit (.bool true)], args := [d] }
  | _ => none }
def emitGoesRow : OpenClaim := { program := "ythmpaddhmgnkbaadoor", sum := "ee6e4c5172ea4907b759d9132e9b082d69f8c43407859fa356c08b8f8ea7577f", func := "inkhorn/inkhornlaw22.EmitGoes", spec := "emitGoes", unfollowed := true, recurses := true, named := ["inkhorn/cell.ranges", "internal/strconv.uint64pow10", "math/bits.deBruijn32tab", "math/bits.deBruijn64tab"], apart := false, laid := [("inkhorn/cell.ranges", laid_inkhorn_cell_ranges), ("math/bits.deBruijn32tab", laid_math_bits_deBruijn32tab), ("math/bits.deBruijn64tab", laid_math_bits_deBruijn64tab), ("internal/strconv.uint64pow10", laid_internal_strconv_uint64pow10)] }
def EmitGoesSaid : Prop := emitGoesRow.holds Tryd.pinned (OpenSpec.ofChange emitGoesSpec)

/-- ITS FALSE NEIGHBOUR: 'it returns false'. Refute it at one input. -/
def emitGoesWrong : ChangeSpec := { name := "emitGoes", fn := fun _ => fun
  | [d] => { results := [.lit (.bool false)], args := [d] }
  | _ => none }
def EmitGoesWrongFalsely : Prop := emitGoesRow.holds Tryd.pinned (OpenSpec.ofChange emitGoesWrong)

/- THE SECOND FORM. 'bulk': how many values and letters a reading holds, each counted each time it is reached (what is shared counts as often as it is met; a slice's spare places count too). A statement '..UptoSaid' is the law's where the arguments, and the package variables that the reading takes, are together of bulk at most 1048576: NARROWER than '..Said'. Prove '..Said' where nothing that the law and all that it calls make is longer than what came in: it says more and counts as full. Else prove '..UptoSaid'. A law counts once. -/
mutual
def uptoBulk {H : Type} : DataW H → Nat
  | .lit (.string bytes) => bytes.length + 1
  | .lit _ => 1
  | .nil => 1
  | .ptr d => uptoBulk d + 1
  | .slice elems spare => uptoBulkAll elems + uptoBulkAll spare + 1
  | .agg parts => uptoBulkAll parts + 1
  | .iface _ d => uptoBulk d + 1
  | .map entries => uptoBulkEntries entries + 1
  | .held _ => 1
def uptoBulkAll {H : Type} : List (DataW H) → Nat
  | [] => 0
  | d :: r => uptoBulk d + uptoBulkAll r
def uptoBulkEntries {H : Type} : List (Lit × DataW H) → Nat
  | [] => 0
  | x :: r => uptoBulkEntry x + uptoBulkEntries r
def uptoBulkEntry {H : Type} : Lit × DataW H → Nat
  | (.string bytes, d) => bytes.length + uptoBulk d + 1
  | (_, d) => uptoBulk d + 1
 end
def uptoSmall : (H : Type) → List (DataW H) → Bool := fun _ ds => decide (uptoBulkAll ds ≤ 1048576)
def OpenSpec.upto (s : _root_.Go.ChangeSpec) : _root_.Go.OpenSpec := { _root_.Go.OpenSpec.ofChange s with cond := some uptoSmall }

/-- 'inkhornlaw22.EmitShows', WHERE WHAT IT READS IS OF BULK AT MOST 1048576: true; the input reads as it did. -/
def emitShowsUptoRow : OpenClaim := { program := "ythmpaddhmgnkbaadoor", sum := "ee6e4c5172ea4907b759d9132e9b082d69f8c43407859fa356c08b8f8ea7577f", func := "inkhorn/inkhornlaw22.EmitShows", spec := "emitShows", unfollowed := true, recurses := true, named := ["inkhorn/cell.ranges", "internal/strconv.uint64pow10", "math/bits.deBruijn32tab", "math/bits.deBruijn64tab"], apart := false, laid := [("inkhorn/cell.ranges", laid_inkhorn_cell_ranges), ("math/bits.deBruijn32tab", laid_math_bits_deBruijn32tab), ("math/bits.deBruijn64tab", laid_math_bits_deBruijn64tab), ("internal/strconv.uint64pow10", laid_internal_strconv_uint64pow10)], narrowed := true }
def EmitShowsUptoSaid : Prop := emitShowsUptoRow.holds Tryd.pinned (OpenSpec.upto emitShowsSpec)

/-- 'inkhornlaw22.EmitFew', WHERE WHAT IT READS IS OF BULK AT MOST 1048576: true; the input reads as it did. -/
def emitFewUptoRow : OpenClaim := { program := "ythmpaddhmgnkbaadoor", sum := "ee6e4c5172ea4907b759d9132e9b082d69f8c43407859fa356c08b8f8ea7577f", func := "inkhorn/inkhornlaw22.EmitFew", spec := "emitFew", unfollowed := true, recurses := true, named := ["inkhorn/cell.ranges", "internal/strconv.uint64pow10", "math/bits.deBruijn32tab", "math/bits.deBruijn64tab"], apart := false, laid := [("inkhorn/cell.ranges", laid_inkhorn_cell_ranges), ("math/bits.deBruijn32tab", laid_math_bits_deBruijn32tab), ("math/bits.deBruijn64tab", laid_math_bits_deBruijn64tab), ("internal/strconv.uint64pow10", laid_internal_strconv_uint64pow10)], narrowed := true }
def EmitFewUptoSaid : Prop := emitFewUptoRow.holds Tryd.pinned (OpenSpec.upto emitFewSpec)

/-- 'inkhornlaw22.EmitForms', WHERE WHAT IT READS IS OF BULK AT MOST 1048576: true; the input reads as it did. -/
def emitFormsUptoRow : OpenClaim := { program := "ythmpaddhmgnkbaadoor", sum := "ee6e4c5172ea4907b759d9132e9b082d69f8c43407859fa356c08b8f8ea7577f", func := "inkhorn/inkhornlaw22.EmitForms", spec := "emitForms", unfollowed := true, recurses := true, named := ["inkhorn/cell.ranges", "internal/strconv.uint64pow10", "math/bits.deBruijn32tab", "math/bits.deBruijn64tab"], apart := false, laid := [("inkhorn/cell.ranges", laid_inkhorn_cell_ranges), ("math/bits.deBruijn32tab", laid_math_bits_deBruijn32tab), ("math/bits.deBruijn64tab", laid_math_bits_deBruijn64tab), ("internal/strconv.uint64pow10", laid_internal_strconv_uint64pow10)], narrowed := true }
def EmitFormsUptoSaid : Prop := emitFormsUptoRow.holds Tryd.pinned (OpenSpec.upto emitFormsSpec)

/-- 'inkhornlaw22.EmitNothing', WHERE WHAT IT READS IS OF BULK AT MOST 1048576: true; the input reads as it did. -/
def emitNothingUptoRow : OpenClaim := { program := "ythmpaddhmgnkbaadoor", sum := "ee6e4c5172ea4907b759d9132e9b082d69f8c43407859fa356c08b8f8ea7577f", func := "inkhorn/inkhornlaw22.EmitNothing", spec := "emitNothing", unfollowed := true, recurses := true, named := ["inkhorn/cell.ranges", "internal/strconv.uint64pow10", "math/bits.deBruijn32tab", "math/bits.deBruijn64tab"], apart := false, laid := [("inkhorn/cell.ranges", laid_inkhorn_cell_ranges), ("math/bits.deBruijn32tab", laid_math_bits_deBruijn32tab), ("math/bits.deBruijn64tab", laid_math_bits_deBruijn64tab), ("internal/strconv.uint64pow10", laid_internal_strconv_uint64pow10)], narrowed := true }
def EmitNothingUptoSaid : Prop := emitNothingUptoRow.holds Tryd.pinned (OpenSpec.upto emitNothingSpec)

/-- 'inkhornlaw22.EmitGoes', WHERE WHAT IT READS IS OF BULK AT MOST 1048576: true; the input reads as it did. -/
def emitGoesUptoRow : OpenClaim := { program := "ythmpaddhmgnkbaadoor", sum := "ee6e4c5172ea4907b759d9132e9b082d69f8c43407859fa356c08b8f8ea7577f", func := "inkhorn/inkhornlaw22.EmitGoes", spec := "emitGoes", unfollowed := true, recurses := true, named := ["inkhorn/cell.ranges", "internal/strconv.uint64pow10", "math/bits.deBruijn32tab", "math/bits.deBruijn64tab"], apart := false, laid := [("inkhorn/cell.ranges", laid_inkhorn_cell_ranges), ("math/bits.deBruijn32tab", laid_math_bits_deBruijn32tab), ("math/bits.deBruijn64tab", laid_math_bits_deBruijn64tab), ("internal/strconv.uint64pow10", laid_internal_strconv_uint64pow10)], narrowed := true }
def EmitGoesUptoSaid : Prop := emitGoesUptoRow.holds Tryd.pinned (OpenSpec.upto emitGoesSpec)

end Rows
end Go.Proofs.YthmpaddhmgnkbaaDoor
