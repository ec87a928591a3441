/- The texts of this seat, one behind another (part 6 of 10): the frame (an abstract machine), the contracts of functions, the laws. -/
import Derived.Test.YtgfccaaalkkdlaaAmArgs
import Derived.Test.YtgfccaaalkkdlaaAmF
import Derived.Test.YtgfccaaalkkdlaaRows
import Derived.WalkKit
import Derived.ProofKit
import Derived.OpenShut
import Derived.JoinedCond
import Derived.DataShut
section
/- What the bound on the input gives. -/
set_option linter.unusedSimpArgs false
set_option linter.unusedVariables false
set_option maxRecDepth 100000
namespace Go.Proofs.Ytgfccaaalkkdlaa.Am
open Go Go.ChangeShapes Go.WideShapes Go.ChangeAt Go.RowKit Go.Proofs.Try
/-- Where nothing lies in memory, a slice is none. -/
theorem arg_nil {W : World} {base : Nat} {t e : TypeId} {v : Value} (ht : prog.underlying t = some (.slice e)) (h : Value.okWide prog W .any base t v) (hz : W.heap.size = 0) : v = .slice none 0 0 := by
  obtain ⟨a, len, cap, rfl⟩ := okWide_slice ht h
  simp only [Value.okWide, ht, Cell.okWide] at h
  cases a with
  | some a =>
    simp only [Cell.ok, ht] at h
    obtain ⟨_, _, _, _, row, cells, hs, _⟩ := h
    have : W.heap[a.block]? = none := Array.getElem?_eq_none (by omega)
    simp [World.shape?, this] at hs
  | none =>
    cases len <;> cases cap <;> simp_all [Cell.ok]
theorem bulk_one {H : Type} (d : DataW H) : 1 ≤ Rows.uptoBulk d := by
  cases d with
  | lit l => cases l <;> simp [Rows.uptoBulk]
  | nil => simp [Rows.uptoBulk]
  | ptr d => simp [Rows.uptoBulk]
  | slice elems spare => simp [Rows.uptoBulk]
  | agg parts => simp [Rows.uptoBulk]
  | iface t d => simp [Rows.uptoBulk]
  | map entries => simp [Rows.uptoBulk]
  | held h => simp [Rows.uptoBulk]
theorem bulk_part {H : Type} {d : DataW H} {l : List (DataW H)} (h : d ∈ l) : Rows.uptoBulk d ≤ Rows.uptoBulkAll l := by
  induction l with
  | nil => cases h
  | cons x r ih =>
    simp only [Rows.uptoBulkAll]
    cases List.mem_cons.1 h with
    | inl e => subst e; omega
    | inr e => have := ih e; omega
theorem bulk_len {H : Type} (l : List (DataW H)) : l.length ≤ Rows.uptoBulkAll l := by
  induction l with
  | nil => simp [Rows.uptoBulkAll]
  | cons x r ih => have := bulk_one x; simp only [Rows.uptoBulkAll, List.length_cons]; omega
theorem small_slice {H : Type} {l : List (DataW H)} {d : DataW H} {xs : List Int} (hk : Rows.uptoSmall H l = true) (hd : d ∈ l) (h : xs = [] ∨ ∃ es sp, d = .slice es sp ∧ es.length = xs.length) : xs.length ≤ 1048576 := by
  rcases h with rfl | ⟨es, sp, rfl, h⟩
  · simp
  · have h1 := bulk_part hd
    have h2 := bulk_len es
    have h3 := of_decide_eq_true hk
    simp only [Rows.uptoBulk] at h1
    omega
end Go.Proofs.Ytgfccaaalkkdlaa.Am
end
section
/- The abstract heap at a law's begin where the program has no variables of its packages. -/
set_option linter.unusedSimpArgs false
set_option linter.unusedVariables false
set_option maxRecDepth 100000
namespace Go.Proofs.Ytgfccaaalkkdlaa.Am
open Go Go.ChangeShapes Go.WideShapes Go.ChangeAt Go.RowKit Go.Proofs.Try
theorem nGlobals0 : prog.globals.size = 0 := by kernel_rfl
theorem law_calls0 {W : World} {f : FuncId} {args args' : Array Value} {xs : List (Blk × Loc)} (hx : ∀ x, x ∈ xs → Lies prog W (startRen xs) x) (hA : AR (startRen xs) args args')
    (C : ACalls prog f args (startHeap xs) (fun v h' => v = .bool true ∧ Keeps (startHeap xs) h')) : Calls prog f args' W fun e W' => e = .returned (.bool true) ∧ Below W.heap.size W W' :=
  ACalls.below (HRel.start hx (fun g hg => by rw [nGlobals0] at hg; omega)) hA C
end Go.Proofs.Ytgfccaaalkkdlaa.Am
end
