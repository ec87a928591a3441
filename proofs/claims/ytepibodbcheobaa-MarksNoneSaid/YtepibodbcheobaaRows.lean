/-
  No cell of these rows narrows 'for every input' (looked for: loops, veiled, ifaces, maps, wideKeys, modest, calm, conditions, laid).
  DERIVED. THE GIVEN ROWS OF THIS SEAT. 5 by the template 'for every input the law returns true; each argument reads behind the call as it read before'; 0 by the template 'total and deterministic' (their statements: YtepibodbcheobaaTotals.lean).
  GIVEN WITH THE SEED: the statements are not yours to turn. If you find one false, say at which input.
  Laid BY PROGRAM, IN A SANDBOX (cutbox-rows.mjs): the forced cells as the released guide's own fill.sh prints them over the translation ca4b573f7a263148… (all of the seat's roots in one cut). By AI agents, Wed Nov 11 2026. No macro, syntax, notation, axiom, sorry.
-/
import Derived.Test.YtepibodbcheobaaChecked
import GoSem.Claim
import GoSem.ClaimJoined
import GoSem.ClaimMapViews
import Derived.JoinedTies
import Derived.KernelRfl
namespace Go.Proofs.Ytepibodbcheobaa
/- THE CELL 'sum', in the pinned program and in every row, IS THE sha256 OF THE DUMP (.gsa) THAT YtepibodbcheobaaProg.lean LOADS. Nothing in Lean hashes anything: it is a label: what it is worth is what the hold of that sum in a sandbox is worth. -/
noncomputable def Try.pinned : Pinned := { name := "ytepibodbcheobaa", sum := "ca4b573f7a263148afe6aa8a9c661c6331cec7f4ca90df3e76ba7a1e665982c9", checked := Try.checked }
namespace Rows
def none {H : Type} : Left H := { results := [], args := [] }

/-- 'inkhornlaw06.MarksMoves': WHATEVER THE INPUT: true; the input reads as it did. -/
def marksMovesSpec : ChangeSpec := { name := "marksMoves", fn := fun _ => fun
  | [d1, d2] => { results := [.lit (.bool true)], args := [d1, d2] }
  | _ => none }
def marksMovesRow : OpenClaim := { program := "ytepibodbcheobaa", sum := "ca4b573f7a263148afe6aa8a9c661c6331cec7f4ca90df3e76ba7a1e665982c9", func := "inkhorn/inkhornlaw06.MarksMoves", spec := "marksMoves", inPlace := ["internal/bytealg.IndexByteString", "internal/bytealg.IndexString"], unfollowed := true, recurses := true, named := ["internal/bytealg.MaxLen"], apart := false }
def MarksMovesSaid : Prop := marksMovesRow.holds Try.pinned (OpenSpec.ofChange marksMovesSpec)

/-- ITS FALSE NEIGHBOUR: 'it returns false'. Refute it at one input. -/
def marksMovesWrong : ChangeSpec := { name := "marksMoves", fn := fun _ => fun
  | [d1, d2] => { results := [.lit (.bool false)], args := [d1, d2] }
  | _ => none }
def MarksMovesWrongFalsely : Prop := marksMovesRow.holds Try.pinned (OpenSpec.ofChange marksMovesWrong)

/-- 'inkhornlaw06.MarksOrder': WHATEVER THE INPUT: true; the input reads as it did. -/
def marksOrderSpec : ChangeSpec := { name := "marksOrder", fn := fun _ => fun
  | [d1, d2, d3] => { results := [.lit (.bool true)], args := [d1, d2, d3] }
  | _ => none }
def marksOrderRow : OpenClaim := { program := "ytepibodbcheobaa", sum := "ca4b573f7a263148afe6aa8a9c661c6331cec7f4ca90df3e76ba7a1e665982c9", func := "inkhorn/inkhornlaw06.MarksOrder", spec := "marksOrder", inPlace := ["internal/bytealg.IndexByteString", "internal/bytealg.IndexString"], unfollowed := true, recurses := true, named := ["internal/bytealg.MaxLen"], apart := false }
def MarksOrderSaid : Prop := marksOrderRow.holds Try.pinned (OpenSpec.ofChange marksOrderSpec)

/-- ITS FALSE NEIGHBOUR: 'it returns false'. Refute it at one input. -/
def marksOrderWrong : ChangeSpec := { name := "marksOrder", fn := fun _ => fun
  | [d1, d2, d3] => { results := [.lit (.bool false)], args := [d1, d2, d3] }
  | _ => none }
def MarksOrderWrongFalsely : Prop := marksOrderRow.holds Try.pinned (OpenSpec.ofChange marksOrderWrong)

/-- 'inkhornlaw06.MarksRound': WHATEVER THE INPUT: true; the input reads as it did. -/
def marksRoundSpec : ChangeSpec := { name := "marksRound", fn := fun _ => fun
  | [d] => { results := [.lit (.bool true)], args := [d] }
  | _ => none }
def marksRoundRow : OpenClaim := { program := "ytepibodbcheobaa", sum := "ca4b573f7a263148afe6aa8a9c661c6331cec7f4ca90df3e76ba7a1e665982c9", func := "inkhorn/inkhornlaw06.MarksRound", spec := "marksRound", inPlace := ["internal/bytealg.IndexByteString", "internal/bytealg.IndexString"], unfollowed := true, recurses := true, named := ["internal/bytealg.MaxLen"], apart := false }
def MarksRoundSaid : Prop := marksRoundRow.holds Try.pinned (OpenSpec.ofChange marksRoundSpec)

/-- ITS FALSE NEIGHBOUR: 'it returns false'. Refute it at one input. -/
def marksRoundWrong : ChangeSpec := { name := "marksRound", fn := fun _ => fun
  | [d] => { results := [.lit (.bool false)], args := [d] }
  | _ => none }
def MarksRoundWrongFalsely : Prop := marksRoundRow.holds Try.pinned (OpenSpec.ofChange marksRoundWrong)

/-- 'inkhornlaw06.MarksPlays': WHATEVER THE INPUT: true; the input reads as it did. -/
def marksPlaysSpec : ChangeSpec := { name := "marksPlays", fn := fun _ => fun
  | [d] => { results := [.lit (.bool true)], args := [d] }
  | _ => none }
def marksPlaysRow : OpenClaim := { program := "ytepibodbcheobaa", sum := "ca4b573f7a263148afe6aa8a9c661c6331cec7f4ca90df3e76ba7a1e665982c9", func := "inkhorn/inkhornlaw06.MarksPlays", spec := "marksPlays", inPlace := ["internal/bytealg.IndexByteString", "internal/bytealg.IndexString"], unfollowed := true, recurses := true, named := ["internal/bytealg.MaxLen"], apart := false }
def MarksPlaysSaid : Prop := marksPlaysRow.holds Try.pinned (OpenSpec.ofChange marksPlaysSpec)

/-- ITS FALSE NEIGHBOUR: 'it returns false'. Refute it at one input. -/
def marksPlaysWrong : ChangeSpec := { name := "marksPlays", fn := fun _ => fun
  | [d] => { results := [.lit (.bool false)], args := [d] }
  | _ => none }
def MarksPlaysWrongFalsely : Prop := marksPlaysRow.holds Try.pinned (OpenSpec.ofChange marksPlaysWrong)

/-- 'inkhornlaw06.MarksNone': WHATEVER THE INPUT: true; the input reads as it did. -/
def marksNoneSpec : ChangeSpec := { name := "marksNone", fn := fun _ => fun
  | [d] => { results := [.lit (.bool true)], args := [d] }
  | _ => none }
def marksNoneRow : OpenClaim := { program := "ytepibodbcheobaa", sum := "ca4b573f7a263148afe6aa8a9c661c6331cec7f4ca90df3e76ba7a1e665982c9", func := "inkhorn/inkhornlaw06.MarksNone", spec := "marksNone", inPlace := ["internal/bytealg.IndexByteString", "internal/bytealg.IndexString"], unfollowed := true, recurses := true, named := ["internal/bytealg.MaxLen"], apart := false }
def MarksNoneSaid : Prop := marksNoneRow.holds Try.pinned (OpenSpec.ofChange marksNoneSpec)

/-- ITS FALSE NEIGHBOUR: 'it returns false'. Refute it at one input. -/
def marksNoneWrong : ChangeSpec := { name := "marksNone", fn := fun _ => fun
  | [d] => { results := [.lit (.bool false)], args := [d] }
  | _ => none }
def MarksNoneWrongFalsely : Prop := marksNoneRow.holds Try.pinned (OpenSpec.ofChange marksNoneWrong)

/- THE SECOND FORM. 'bulk': how many values and letters a reading holds, each counted each time it is reached (what is shared counts as often as it is met; a slice's spare places count too). A statement '..UptoSaid' is the law's where the arguments, and the package variables that the reading takes, are together of bulk at most 1048576: NARROWER than '..Said'. Prove '..Said' where nothing that the law and all that it calls make is longer than what came in: it says more and counts as full. Else prove '..UptoSaid'. A law counts once. -/
mutual
def uptoBulk {H : Type} : DataW H → Nat
  | .lit (.string bytes) => bytes.length + 1
  | .lit _ => 1
  | .nil => 1
  | .ptr d => uptoBulk d + 1
  | .slice elems spare => uptoBulkAll elems + uptoBulkAll spare + 1
  | .agg parts => uptoBulkAll parts + 1
  | .iface _ d => uptoBulk d + 1
  | .map entries => uptoBulkEntries entries + 1
  | .held _ => 1
def uptoBulkAll {H : Type} : List (DataW H) → Nat
  | [] => 0
  | d :: r => uptoBulk d + uptoBulkAll r
def uptoBulkEntries {H : Type} : List (Lit × DataW H) → Nat
  | [] => 0
  | x :: r => uptoBulkEntry x + uptoBulkEntries r
def uptoBulkEntry {H : Type} : Lit × DataW H → Nat
  | (.string bytes, d) => bytes.length + uptoBulk d + 1
  | (_, d) => uptoBulk d + 1
 end
def uptoSmall : (H : Type) → List (DataW H) → Bool := fun _ ds => decide (uptoBulkAll ds ≤ 1048576)
def OpenSpec.upto (s : _root_.Go.ChangeSpec) : _root_.Go.OpenSpec := { _root_.Go.OpenSpec.ofChange s with cond := some uptoSmall }

/-- 'inkhornlaw06.MarksMoves', WHERE WHAT IT READS IS OF BULK AT MOST 1048576: true; the input reads as it did. -/
def marksMovesUptoRow : OpenClaim := { program := "ytepibodbcheobaa", sum := "ca4b573f7a263148afe6aa8a9c661c6331cec7f4ca90df3e76ba7a1e665982c9", func := "inkhorn/inkhornlaw06.MarksMoves", spec := "marksMoves", inPlace := ["internal/bytealg.IndexByteString", "internal/bytealg.IndexString"], unfollowed := true, recurses := true, named := ["internal/bytealg.MaxLen"], apart := false, narrowed := true }
def MarksMovesUptoSaid : Prop := marksMovesUptoRow.holds Try.pinned (OpenSpec.upto marksMovesSpec)

/-- 'inkhornlaw06.MarksOrder', WHERE WHAT IT READS IS OF BULK AT MOST 1048576: true; the input reads as it did. -/
def marksOrderUptoRow : OpenClaim := { program := "ytepibodbcheobaa", sum := "ca4b573f7a263148afe6aa8a9c661c6331cec7f4ca90df3e76ba7a1e665982c9", func := "inkhorn/inkhornlaw06.MarksOrder", spec := "marksOrder", inPlace := ["internal/bytealg.IndexByteString", "internal/bytealg.IndexString"], unfollowed := true, recurses := true, named := ["internal/bytealg.MaxLen"], apart := false, narrowed := true }
def MarksOrderUptoSaid : Prop := marksOrderUptoRow.holds Try.pinned (OpenSpec.upto marksOrderSpec)

/-- 'inkhornlaw06.MarksRound', WHERE WHAT IT READS IS OF BULK AT MOST 1048576: true; the input reads as it did. -/
def marksRoundUptoRow : OpenClaim := { program := "ytepibodbcheobaa", sum := "ca4b573f7a263148afe6aa8a9c661c6331cec7f4ca90df3e76ba7a1e665982c9", func := "inkhorn/inkhornlaw06.MarksRound", spec := "marksRound", inPlace := ["internal/bytealg.IndexByteString", "internal/bytealg.IndexString"], unfollowed := true, recurses := true, named := ["internal/bytealg.MaxLen"], apart := false, narrowed := true }
def MarksRoundUptoSaid : Prop := marksRoundUptoRow.holds Try.pinned (OpenSpec.upto marksRoundSpec)

/-- 'inkhornlaw06.MarksPlays', WHERE WHAT IT READS IS OF BULK AT MOST 1048576: true; the input reads as it did. -/
def marksPlaysUptoRow : OpenClaim := { program := "ytepibodbcheobaa", sum := "ca4b573f7a263148afe6aa8a9c661c6331cec7f4ca90df3e76ba7a1e665982c9", func := "inkhorn/inkhornlaw06.MarksPlays", spec := "marksPlays", inPlace := ["internal/bytealg.IndexByteString", "internal/bytealg.IndexString"], unfollowed := true, recurses := true, named := ["internal/bytealg.MaxLen"], apart := false, narrowed := true }
def MarksPlaysUptoSaid : Prop := marksPlaysUptoRow.holds Try.pinned (OpenSpec.upto marksPlaysSpec)

/-- 'inkhornlaw06.MarksNone', WHERE WHAT IT READS IS OF BULK AT MOST 1048576: true; the input reads as it did. -/
def marksNoneUptoRow : OpenClaim := { program := "ytepibodbcheobaa", sum := "ca4b573f7a263148afe6aa8a9c661c6331cec7f4ca90df3e76ba7a1e665982c9", func := "inkhorn/inkhornlaw06.MarksNone", spec := "marksNone", inPlace := ["internal/bytealg.IndexByteString", "internal/bytealg.IndexString"], unfollowed := true, recurses := true, named := ["internal/bytealg.MaxLen"], apart := false, narrowed := true }
def MarksNoneUptoSaid : Prop := marksNoneUptoRow.holds Try.pinned (OpenSpec.upto marksNoneSpec)

end Rows
end Go.Proofs.Ytepibodbcheobaa
