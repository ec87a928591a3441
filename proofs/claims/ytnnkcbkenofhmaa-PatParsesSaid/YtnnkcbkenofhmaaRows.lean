/-
  No cell of these rows narrows 'for every input' (looked for: loops, veiled, ifaces, maps, wideKeys, modest, calm, conditions, laid).
  DERIVED. THE GIVEN ROWS OF THIS SEAT. 5 by the template 'for every input the law returns true; each argument reads behind the call as it read before'; 0 by the template 'total and deterministic' (their statements: YtnnkcbkenofhmaaTotals.lean).
  GIVEN WITH THE SEED: the statements are not yours to turn. If you find one false, say at which input.
  Laid BY PROGRAM, IN A SANDBOX (cutbox-rows.mjs): the forced cells as the released guide's own fill.sh prints them over the translation 2cea82a4958119a2… (all of the seat's roots in one cut). By AI agents, Wed Nov 11 2026. No macro, syntax, notation, axiom, sorry.
-/
import Derived.Test.YtnnkcbkenofhmaaChecked
import GoSem.Claim
import GoSem.ClaimJoined
import GoSem.ClaimMapViews
import Derived.JoinedTies
import Derived.KernelRfl
namespace Go.Proofs.Ytnnkcbkenofhmaa
/- THE CELL 'sum', in the pinned program and in every row, IS THE sha256 OF THE DUMP (.gsa) THAT YtnnkcbkenofhmaaProg.lean LOADS. Nothing in Lean hashes anything: it is a label: what it is worth is what the hold of that sum in a sandbox is worth. -/
noncomputable def Try.pinned : Pinned := { name := "ytnnkcbkenofhmaa", sum := "2cea82a4958119a266fa1ded0f3699602306ea36df00da1d1fc61caa6689ad6b", checked := Try.checked }
namespace Rows
def none {H : Type} : Left H := { results := [], args := [] }

/-- 'inkhornlaw07.PatGroups': WHATEVER THE INPUT: true; the input reads as it did. -/
def patGroupsSpec : ChangeSpec := { name := "patGroups", fn := fun _ => fun
  | [d] => { results := [.lit (.bool true)], args := [d] }
  | _ => none }
def patGroupsRow : OpenClaim := { program := "ytnnkcbkenofhmaa", sum := "2cea82a4958119a266fa1ded0f3699602306ea36df00da1d1fc61caa6689ad6b", func := "inkhorn/inkhornlaw07.PatGroups", spec := "patGroups", unfollowed := true, recurses := true, apart := false }
def PatGroupsSaid : Prop := patGroupsRow.holds Try.pinned (OpenSpec.ofChange patGroupsSpec)

/-- ITS FALSE NEIGHBOUR: 'it returns false'. Refute it at one input. -/
def patGroupsWrong : ChangeSpec := { name := "patGroups", fn := fun _ => fun
  | [d] => { results := [.lit (.bool false)], args := [d] }
  | _ => none }
def PatGroupsWrongFalsely : Prop := patGroupsRow.holds Try.pinned (OpenSpec.ofChange patGroupsWrong)

/-- 'inkhornlaw07.PatTimes': WHATEVER THE INPUT: true; the input reads as it did. -/
def patTimesSpec : ChangeSpec := { name := "patTimes", fn := fun _ => fun
  | [d1, d2] => { results := [.lit (.bool true)], args := [d1, d2] }
  | _ => none }
def patTimesRow : OpenClaim := { program := "ytnnkcbkenofhmaa", sum := "2cea82a4958119a266fa1ded0f3699602306ea36df00da1d1fc61caa6689ad6b", func := "inkhorn/inkhornlaw07.PatTimes", spec := "patTimes", unfollowed := true, recurses := true, apart := false }
def PatTimesSaid : Prop := patTimesRow.holds Try.pinned (OpenSpec.ofChange patTimesSpec)

/-- ITS FALSE NEIGHBOUR: 'it returns false'. Refute it at one input. -/
def patTimesWrong : ChangeSpec := { name := "patTimes", fn := fun _ => fun
  | [d1, d2] => { results := [.lit (.bool false)], args := [d1, d2] }
  | _ => none }
def PatTimesWrongFalsely : Prop := patTimesRow.holds Try.pinned (OpenSpec.ofChange patTimesWrong)

/-- 'inkhornlaw07.PatParses': WHATEVER THE INPUT: true; the input reads as it did. -/
def patParsesSpec : ChangeSpec := { name := "patParses", fn := fun _ => fun
  | [d] => { results := [.lit (.bool true)], args := [d] }
  | _ => none }
def patParsesRow : OpenClaim := { program := "ytnnkcbkenofhmaa", sum := "2cea82a4958119a266fa1ded0f3699602306ea36df00da1d1fc61caa6689ad6b", func := "inkhorn/inkhornlaw07.PatParses", spec := "patParses", unfollowed := true, recurses := true, apart := false }
def PatParsesSaid : Prop := patParsesRow.holds Try.pinned (OpenSpec.ofChange patParsesSpec)

/-- ITS FALSE NEIGHBOUR: 'it returns false'. Refute it at one input. -/
def patParsesWrong : ChangeSpec := { name := "patParses", fn := fun _ => fun
  | [d] => { results := [.lit (.bool false)], args := [d] }
  | _ => none }
def PatParsesWrongFalsely : Prop := patParsesRow.holds Try.pinned (OpenSpec.ofChange patParsesWrong)

/-- 'inkhornlaw07.PatChoices': WHATEVER THE INPUT: true; the input reads as it did. -/
def patChoicesSpec : ChangeSpec := { name := "patChoices", fn := fun _ => fun
  | [d1, d2] => { results := [.lit (.bool true)], args := [d1, d2] }
  | _ => none }
def patChoicesRow : OpenClaim := { program := "ytnnkcbkenofhmaa", sum := "2cea82a4958119a266fa1ded0f3699602306ea36df00da1d1fc61caa6689ad6b", func := "inkhorn/inkhornlaw07.PatChoices", spec := "patChoices", unfollowed := true, recurses := true, apart := false }
def PatChoicesSaid : Prop := patChoicesRow.holds Try.pinned (OpenSpec.ofChange patChoicesSpec)

/-- ITS FALSE NEIGHBOUR: 'it returns false'. Refute it at one input. -/
def patChoicesWrong : ChangeSpec := { name := "patChoices", fn := fun _ => fun
  | [d1, d2] => { results := [.lit (.bool false)], args := [d1, d2] }
  | _ => none }
def PatChoicesWrongFalsely : Prop := patChoicesRow.holds Try.pinned (OpenSpec.ofChange patChoicesWrong)

/-- 'inkhornlaw07.PatQuotes': WHATEVER THE INPUT: true; the input reads as it did. -/
def patQuotesSpec : ChangeSpec := { name := "patQuotes", fn := fun _ => fun
  | [d] => { results := [.lit (.bool true)], args := [d] }
  | _ => none }
def patQuotesRow : OpenClaim := { program := "ytnnkcbkenofhmaa", sum := "2cea82a4958119a266fa1ded0f3699602306ea36df00da1d1fc61caa6689ad6b", func := "inkhorn/inkhornlaw07.PatQuotes", spec := "patQuotes", inPlace := ["internal/bytealg.IndexByteString", "internal/bytealg.IndexString"], unfollowed := true, recurses := true, named := ["internal/bytealg.MaxLen"], apart := false }
def PatQuotesSaid : Prop := patQuotesRow.holds Try.pinned (OpenSpec.ofChange patQuotesSpec)

/-- ITS FALSE NEIGHBOUR: 'it returns false'. Refute it at one input. -/
def patQuotesWrong : ChangeSpec := { name := "patQuotes", fn := fun _ => fun
  | [d] => { results := [.lit (.bool false)], args := [d] }
  | _ => none }
def PatQuotesWrongFalsely : Prop := patQuotesRow.holds Try.pinned (OpenSpec.ofChange patQuotesWrong)

/- THE SECOND FORM. 'bulk': how many values and letters a reading holds, each counted each time it is reached (what is shared counts as often as it is met; a slice's spare places count too). A statement '..UptoSaid' is the law's where the arguments, and the package variables that the reading takes, are together of bulk at most 1048576: NARROWER than '..Said'. Prove '..Said' where nothing that the law and all that it calls make is longer than what came in: it says more and counts as full. Else prove '..UptoSaid'. A law counts once. -/
mutual
def uptoBulk {H : Type} : DataW H → Nat
  | .lit (.string bytes) => bytes.length + 1
  | .lit _ => 1
  | .nil => 1
  | .ptr d => uptoBulk d + 1
  | .slice elems spare => uptoBulkAll elems + uptoBulkAll spare + 1
  | .agg parts => uptoBulkAll parts + 1
  | .iface _ d => uptoBulk d + 1
  | .map entries => uptoBulkEntries entries + 1
  | .held _ => 1
def uptoBulkAll {H : Type} : List (DataW H) → Nat
  | [] => 0
  | d :: r => uptoBulk d + uptoBulkAll r
def uptoBulkEntries {H : Type} : List (Lit × DataW H) → Nat
  | [] => 0
  | x :: r => uptoBulkEntry x + uptoBulkEntries r
def uptoBulkEntry {H : Type} : Lit × DataW H → Nat
  | (.string bytes, d) => bytes.length + uptoBulk d + 1
  | (_, d) => uptoBulk d + 1
 end
def uptoSmall : (H : Type) → List (DataW H) → Bool := fun _ ds => decide (uptoBulkAll ds ≤ 1048576)
def OpenSpec.upto (s : _root_.Go.ChangeSpec) : _root_.Go.OpenSpec := { _root_.Go.OpenSpec.ofChange s with cond := some uptoSmall }

/-- 'inkhornlaw07.PatGroups', WHERE WHAT IT READS IS OF BULK AT MOST 1048576: true; the input reads as it did. -/
def patGroupsUptoRow : OpenClaim := { program := "ytnnkcbkenofhmaa", sum := "2cea82a4958119a266fa1ded0f3699602306ea36df00da1d1fc61caa6689ad6b", func := "inkhorn/inkhornlaw07.PatGroups", spec := "patGroups", unfollowed := true, recurses := true, apart := false, narrowed := true }
def PatGroupsUptoSaid : Prop := patGroupsUptoRow.holds Try.pinned (OpenSpec.upto patGroupsSpec)

/-- 'inkhornlaw07.PatTimes', WHERE WHAT IT READS IS OF BULK AT MOST 1048576: true; the input reads as it did. -/
def patTimesUptoRow : OpenClaim := { program := "ytnnkcbkenofhmaa", sum := "2cea82a4958119a266fa1ded0f3699602306ea36df00da1d1fc61caa6689ad6b", func := "inkhorn/inkhornlaw07.PatTimes", spec := "patTimes", unfollowed := true, recurses := true, apart := false, narrowed := true }
def PatTimesUptoSaid : Prop := patTimesUptoRow.holds Try.pinned (OpenSpec.upto patTimesSpec)

/-- 'inkhornlaw07.PatParses', WHERE WHAT IT READS IS OF BULK AT MOST 1048576: true; the input reads as it did. -/
def patParsesUptoRow : OpenClaim := { program := "ytnnkcbkenofhmaa", sum := "2cea82a4958119a266fa1ded0f3699602306ea36df00da1d1fc61caa6689ad6b", func := "inkhorn/inkhornlaw07.PatParses", spec := "patParses", unfollowed := true, recurses := true, apart := false, narrowed := true }
def PatParsesUptoSaid : Prop := patParsesUptoRow.holds Try.pinned (OpenSpec.upto patParsesSpec)

/-- 'inkhornlaw07.PatChoices', WHERE WHAT IT READS IS OF BULK AT MOST 1048576: true; the input reads as it did. -/
def patChoicesUptoRow : OpenClaim := { program := "ytnnkcbkenofhmaa", sum := "2cea82a4958119a266fa1ded0f3699602306ea36df00da1d1fc61caa6689ad6b", func := "inkhorn/inkhornlaw07.PatChoices", spec := "patChoices", unfollowed := true, recurses := true, apart := false, narrowed := true }
def PatChoicesUptoSaid : Prop := patChoicesUptoRow.holds Try.pinned (OpenSpec.upto patChoicesSpec)

/-- 'inkhornlaw07.PatQuotes', WHERE WHAT IT READS IS OF BULK AT MOST 1048576: true; the input reads as it did. -/
def patQuotesUptoRow : OpenClaim := { program := "ytnnkcbkenofhmaa", sum := "2cea82a4958119a266fa1ded0f3699602306ea36df00da1d1fc61caa6689ad6b", func := "inkhorn/inkhornlaw07.PatQuotes", spec := "patQuotes", inPlace := ["internal/bytealg.IndexByteString", "internal/bytealg.IndexString"], unfollowed := true, recurses := true, named := ["internal/bytealg.MaxLen"], apart := false, narrowed := true }
def PatQuotesUptoSaid : Prop := patQuotesUptoRow.holds Try.pinned (OpenSpec.upto patQuotesSpec)

end Rows
end Go.Proofs.Ytnnkcbkenofhmaa
