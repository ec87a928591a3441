/-
  No cell of these rows narrows 'for every input' (looked for: loops, veiled, ifaces, maps, wideKeys, modest, calm, conditions, laid).
  DERIVED. THE GIVEN ROWS OF THIS SEAT. 5 by the template 'for every input the law returns true; each argument reads behind the call as it read before'; 0 by the template 'total and deterministic' (their statements: YtgfccaaalkkdlaaTotals.lean).
  GIVEN WITH THE SEED: the statements are not yours to turn. If you find one false, say at which input.
  Laid BY PROGRAM, IN A SANDBOX (cutbox-rows.mjs): the forced cells as the released guide's own fill.sh prints them over the translation 964a27eb616bafce… (all of the seat's roots in one cut). By AI agents, Wed Nov 11 2026. No macro, syntax, notation, axiom, sorry.
-/
import Derived.Test.YtgfccaaalkkdlaaChecked
import GoSem.Claim
import GoSem.ClaimJoined
import GoSem.ClaimMapViews
import Derived.JoinedTies
import Derived.KernelRfl
namespace Go.Proofs.Ytgfccaaalkkdlaa
/- THE CELL 'sum', in the pinned program and in every row, IS THE sha256 OF THE DUMP (.gsa) THAT YtgfccaaalkkdlaaProg.lean LOADS. Nothing in Lean hashes anything: it is a label: what it is worth is what the hold of that sum in a sandbox is worth. -/
noncomputable def Try.pinned : Pinned := { name := "ytgfccaaalkkdlaa", sum := "964a27eb616bafcec69241f2c7a356527b0dd577d5516996c9cc35432f49e233", checked := Try.checked }
namespace Rows
def none {H : Type} : Left H := { results := [], args := [] }

/-- 'inkhornlaw17.FoldShows': WHATEVER THE INPUT: true; the input reads as it did. -/
def foldShowsSpec : ChangeSpec := { name := "foldShows", fn := fun _ => fun
  | [d1, d2, d3] => { results := [.lit (.bool true)], args := [d1, d2, d3] }
  | _ => none }
def foldShowsRow : OpenClaim := { program := "ytgfccaaalkkdlaa", sum := "964a27eb616bafcec69241f2c7a356527b0dd577d5516996c9cc35432f49e233", func := "inkhorn/inkhornlaw17.FoldShows", spec := "foldShows", inPlace := ["slices.overlaps[inkhorn/api.Fold]"], unfollowed := true, recurses := true, apart := false }
def FoldShowsSaid : Prop := foldShowsRow.holds Try.pinned (OpenSpec.ofChange foldShowsSpec)

/-- ITS FALSE NEIGHBOUR: 'it returns false'. Refute it at one input. -/
def foldShowsWrong : ChangeSpec := { name := "foldShows", fn := fun _ => fun
  | [d1, d2, d3] => { results := [.lit (.bool false)], args := [d1, d2, d3] }
  | _ => none }
def FoldShowsWrongFalsely : Prop := foldShowsRow.holds Try.pinned (OpenSpec.ofChange foldShowsWrong)

/-- 'inkhornlaw17.FoldAdjusts': WHATEVER THE INPUT: true; the input reads as it did. -/
def foldAdjustsSpec : ChangeSpec := { name := "foldAdjusts", fn := fun _ => fun
  | [d1, d2] => { results := [.lit (.bool true)], args := [d1, d2] }
  | _ => none }
def foldAdjustsRow : OpenClaim := { program := "ytgfccaaalkkdlaa", sum := "964a27eb616bafcec69241f2c7a356527b0dd577d5516996c9cc35432f49e233", func := "inkhorn/inkhornlaw17.FoldAdjusts", spec := "foldAdjusts", inPlace := ["slices.overlaps[inkhorn/api.Fold]"], unfollowed := true, recurses := true, apart := false }
def FoldAdjustsSaid : Prop := foldAdjustsRow.holds Try.pinned (OpenSpec.ofChange foldAdjustsSpec)

/-- ITS FALSE NEIGHBOUR: 'it returns false'. Refute it at one input. -/
def foldAdjustsWrong : ChangeSpec := { name := "foldAdjusts", fn := fun _ => fun
  | [d1, d2] => { results := [.lit (.bool false)], args := [d1, d2] }
  | _ => none }
def FoldAdjustsWrongFalsely : Prop := foldAdjustsRow.holds Try.pinned (OpenSpec.ofChange foldAdjustsWrong)

/-- 'inkhornlaw17.FoldRows': WHATEVER THE INPUT: true; the input reads as it did. -/
def foldRowsSpec : ChangeSpec := { name := "foldRows", fn := fun _ => fun
  | [d1, d2] => { results := [.lit (.bool true)], args := [d1, d2] }
  | _ => none }
def foldRowsRow : OpenClaim := { program := "ytgfccaaalkkdlaa", sum := "964a27eb616bafcec69241f2c7a356527b0dd577d5516996c9cc35432f49e233", func := "inkhorn/inkhornlaw17.FoldRows", spec := "foldRows", inPlace := ["slices.overlaps[inkhorn/api.Fold]"], unfollowed := true, recurses := true, apart := false }
def FoldRowsSaid : Prop := foldRowsRow.holds Try.pinned (OpenSpec.ofChange foldRowsSpec)

/-- ITS FALSE NEIGHBOUR: 'it returns false'. Refute it at one input. -/
def foldRowsWrong : ChangeSpec := { name := "foldRows", fn := fun _ => fun
  | [d1, d2] => { results := [.lit (.bool false)], args := [d1, d2] }
  | _ => none }
def FoldRowsWrongFalsely : Prop := foldRowsRow.holds Try.pinned (OpenSpec.ofChange foldRowsWrong)

/-- 'inkhornlaw17.FoldMakes': WHATEVER THE INPUT: true; the input reads as it did. -/
def foldMakesSpec : ChangeSpec := { name := "foldMakes", fn := fun _ => fun
  | [d1, d2, d3] => { results := [.lit (.bool true)], args := [d1, d2, d3] }
  | _ => none }
def foldMakesRow : OpenClaim := { program := "ytgfccaaalkkdlaa", sum := "964a27eb616bafcec69241f2c7a356527b0dd577d5516996c9cc35432f49e233", func := "inkhorn/inkhornlaw17.FoldMakes", spec := "foldMakes", inPlace := ["slices.overlaps[inkhorn/api.Fold]"], unfollowed := true, recurses := true, apart := false }
def FoldMakesSaid : Prop := foldMakesRow.holds Try.pinned (OpenSpec.ofChange foldMakesSpec)

/-- ITS FALSE NEIGHBOUR: 'it returns false'. Refute it at one input. -/
def foldMakesWrong : ChangeSpec := { name := "foldMakes", fn := fun _ => fun
  | [d1, d2, d3] => { results := [.lit (.bool false)], args := [d1, d2, d3] }
  | _ => none }
def FoldMakesWrongFalsely : Prop := foldMakesRow.holds Try.pinned (OpenSpec.ofChange foldMakesWrong)

/-- 'inkhornlaw17.FoldStays': WHATEVER THE INPUT: true; the input reads as it did. -/
def foldStaysSpec : ChangeSpec := { name := "foldStays", fn := fun _ => fun
  | [d] => { results := [.lit (.bool true)], args := [d] }
  | _ => none }
def foldStaysRow : OpenClaim := { program := "ytgfccaaalkkdlaa", sum := "964a27eb616bafcec69241f2c7a356527b0dd577d5516996c9cc35432f49e233", func := "inkhorn/inkhornlaw17.FoldStays", spec := "foldStays", inPlace := ["slices.overlaps[inkhorn/api.Fold]"], unfollowed := true, recurses := true, apart := false }
def FoldStaysSaid : Prop := foldStaysRow.holds Try.pinned (OpenSpec.ofChange foldStaysSpec)

/-- ITS FALSE NEIGHBOUR: 'it returns false'. Refute it at one input. -/
def foldStaysWrong : ChangeSpec := { name := "foldStays", fn := fun _ => fun
  | [d] => { results := [.lit (.bool false)], args := [d] }
  | _ => none }
def FoldStaysWrongFalsely : Prop := foldStaysRow.holds Try.pinned (OpenSpec.ofChange foldStaysWrong)

/- THE SECOND FORM. 'bulk': how many values and letters a reading holds, each counted each time it is reached (what is shared counts as often as it is met; a slice's spare places count too). A statement '..UptoSaid' is the law's where the arguments, and the package variables that the reading takes, are together of bulk at most 1048576: NARROWER than '..Said'. Prove '..Said' where nothing that the law and all that it calls make is longer than what came in: it says more and counts as full. Else prove '..UptoSaid'. A law counts once. -/
mutual
def uptoBulk {H : Type} : DataW H → Nat
  | .lit (.string bytes) => bytes.length + 1
  | .lit _ => 1
  | .nil => 1
  | .ptr d => uptoBulk d + 1
  | .slice elems spare => uptoBulkAll elems + uptoBulkAll spare + 1
  | .agg parts => uptoBulkAll parts + 1
  | .iface _ d => uptoBulk d + 1
  | .map entries => uptoBulkEntries entries + 1
  | .held _ => 1
def uptoBulkAll {H : Type} : List (DataW H) → Nat
  | [] => 0
  | d :: r => uptoBulk d + uptoBulkAll r
def uptoBulkEntries {H : Type} : List (Lit × DataW H) → Nat
  | [] => 0
  | x :: r => uptoBulkEntry x + uptoBulkEntries r
def uptoBulkEntry {H : Type} : Lit × DataW H → Nat
  | (.string bytes, d) => bytes.length + uptoBulk d + 1
  | (_, d) => uptoBulk d + 1
 end
def uptoSmall : (H : Type) → List (DataW H) → Bool := fun _ ds => decide (uptoBulkAll ds ≤ 1048576)
def OpenSpec.upto (s : _root_.Go.ChangeSpec) : _root_.Go.OpenSpec := { _root_.Go.OpenSpec.ofChange s with cond := some uptoSmall }

/-- 'inkhornlaw17.FoldShows', WHERE WHAT IT READS IS OF BULK AT MOST 1048576: true; the input reads as it did. -/
def foldShowsUptoRow : OpenClaim := { program := "ytgfccaaalkkdlaa", sum := "964a27eb616bafcec69241f2c7a356527b0dd577d5516996c9cc35432f49e233", func := "inkhorn/inkhornlaw17.FoldShows", spec := "foldShows", inPlace := ["slices.overlaps[inkhorn/api.Fold]"], unfollowed := true, recurses := true, apart := false, narrowed := true }
def FoldShowsUptoSaid : Prop := foldShowsUptoRow.holds Try.pinned (OpenSpec.upto foldShowsSpec)

/-- 'inkhornlaw17.FoldAdjusts', WHERE WHAT IT READS IS OF BULK AT MOST 1048576: true; the input reads as it did. -/
def foldAdjustsUptoRow : OpenClaim := { program := "ytgfccaaalkkdlaa", sum := "964a27eb616bafcec69241f2c7a356527b0dd577d5516996c9cc35432f49e233", func := "inkhorn/inkhornlaw17.FoldAdjusts", spec := "foldAdjusts", inPlace := ["slices.overlaps[inkhorn/api.Fold]"], unfollowed := true, recurses := true, apart := false, narrowed := true }
def FoldAdjustsUptoSaid : Prop := foldAdjustsUptoRow.holds Try.pinned (OpenSpec.upto foldAdjustsSpec)

/-- 'inkhornlaw17.FoldRows', WHERE WHAT IT READS IS OF BULK AT MOST 1048576: true; the input reads as it did. -/
def foldRowsUptoRow : OpenClaim := { program := "ytgfccaaalkkdlaa", sum := "964a27eb616bafcec69241f2c7a356527b0dd577d5516996c9cc35432f49e233", func := "inkhorn/inkhornlaw17.FoldRows", spec := "foldRows", inPlace := ["slices.overlaps[inkhorn/api.Fold]"], unfollowed := true, recurses := true, apart := false, narrowed := true }
def FoldRowsUptoSaid : Prop := foldRowsUptoRow.holds Try.pinned (OpenSpec.upto foldRowsSpec)

/-- 'inkhornlaw17.FoldMakes', WHERE WHAT IT READS IS OF BULK AT MOST 1048576: true; the input reads as it did. -/
def foldMakesUptoRow : OpenClaim := { program := "ytgfccaaalkkdlaa", sum := "964a27eb616bafcec69241f2c7a356527b0dd577d5516996c9cc35432f49e233", func := "inkhorn/inkhornlaw17.FoldMakes", spec := "foldMakes", inPlace := ["slices.overlaps[inkhorn/api.Fold]"], unfollowed := true, recurses := true, apart := false, narrowed := true }
def FoldMakesUptoSaid : Prop := foldMakesUptoRow.holds Try.pinned (OpenSpec.upto foldMakesSpec)

/-- 'inkhornlaw17.FoldStays', WHERE WHAT IT READS IS OF BULK AT MOST 1048576: true; the input reads as it did. -/
def foldStaysUptoRow : OpenClaim := { program := "ytgfccaaalkkdlaa", sum := "964a27eb616bafcec69241f2c7a356527b0dd577d5516996c9cc35432f49e233", func := "inkhorn/inkhornlaw17.FoldStays", spec := "foldStays", inPlace := ["slices.overlaps[inkhorn/api.Fold]"], unfollowed := true, recurses := true, apart := false, narrowed := true }
def FoldStaysUptoSaid : Prop := foldStaysUptoRow.holds Try.pinned (OpenSpec.upto foldStaysSpec)

end Rows
end Go.Proofs.Ytgfccaaalkkdlaa
