/- The texts of this seat, one behind another (part 21 of 25): the frame (an abstract machine), the contracts of functions, the laws. -/
import Derived.Test.YthmpaddhmgnkbaaDoorZ19
import Derived.Test.YthmpaddhmgnkbaaDoorZ20
section
/- What the bound on the input gives of a tree. -/
set_option linter.unusedSimpArgs false
set_option linter.unusedVariables false
set_option maxRecDepth 100000
namespace Go.Proofs.YthmpaddhmgnkbaaDoor.Am
open Go Go.ChangeShapes Go.WideShapes Go.ChangeAt Go.RowKit Go.Proofs.Tryd
mutual
def tw : Tree → Nat
  | .num _ => 1
  | .bool _ => 1
  | .str s => s.size + 1
  | .list es => twL es + 1
  | .agg es => twL es + 1
def twL : List Tree → Nat
  | [] => 0
  | x :: r => tw x + twL r
end
theorem bulkAll_tw {H : Type} : ∀ {es : List (DataW H)} {ts : List Tree}, es.length = ts.length → (∀ (i : Nat) d t, es[i]? = some d → ts[i]? = some t → tw t ≤ Rows.uptoBulk d) → twL ts ≤ Rows.uptoBulkAll es
  | [], [], _, _ => Nat.le_refl _
  | [], _ :: _, h, _ => by simp at h
  | _ :: _, [], h, _ => by simp at h
  | d :: es, t :: ts, h, g => by
    have h0 := g 0 d t rfl rfl
    have h1 := bulkAll_tw (es := es) (ts := ts) (by simpa using h) (fun i a b ha hb => g (i + 1) a b (by simpa using ha) (by simpa using hb))
    simp only [twL, Rows.uptoBulkAll]; omega
theorem dat_bulk {H : Type} {d : DataW H} {t : Tree} (D : Dat d t) : tw t ≤ Rows.uptoBulk d := by
  induction D with
  | num => simp [tw, Rows.uptoBulk]
  | bool => simp [tw, Rows.uptoBulk]
  | @str s => show s.data.size + 1 ≤ s.data.toList.length + 1; simp
  | nil => simp [tw, twL, Rows.uptoBulk]
  | slice hl _ ih => have := bulkAll_tw hl ih; simp only [tw, Rows.uptoBulk]; omega
  | agg hl _ ih => have := bulkAll_tw hl ih; simp only [tw, Rows.uptoBulk]; omega
theorem small_tree {H : Type} {l : List (DataW H)} {d : DataW H} {t : Tree} (hk : Rows.uptoSmall H l = true) (hd : d ∈ l) (D : Dat d t) : tw t ≤ 1048576 := by
  have h1 := bulk_part hd
  have h2 := of_decide_eq_true hk
  have h3 := dat_bulk D
  omega
end Go.Proofs.YthmpaddhmgnkbaaDoor.Am
end
