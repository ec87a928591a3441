/- The texts of this seat, one behind another (part 8 of 10): the frame (an abstract machine), the contracts of functions, the laws. -/
import Derived.Test.YtgfccaaalkkdlaaZ6
import Derived.Test.YtgfccaaalkkdlaaZ2
import Derived.Test.YtgfccaaalkkdlaaAmImp
section
/- Folds that are handed in, from their reading to the abstract heap. -/
set_option linter.unusedSimpArgs false
set_option linter.unusedVariables false
set_option maxRecDepth 100000
namespace Go.Proofs.Ytgfccaaalkkdlaa.Am
open Go Go.ChangeShapes Go.WideShapes Go.ChangeAt Go.RowKit Go.Proofs.Try
def treeF (f : F) : Tree := .agg [.num f.fr, .num f.to, .bool f.cl]
theorem lay_fold {h : Heap} {x : Tree} {cs : List Value} (L : Lay prog h 36 x cs) : ∃ a, x = treeF a ∧ cs = cF a := by
  obtain ⟨ps, rfl, hl, hn, hall⟩ := L.struct_inv underlying36
  have hl3 : cs.length = 3 := hl.trans (show prog.cellsOf 36 = 3 by kernel_rfl)
  have hn3 : ps.length = 3 := hn
  obtain ⟨a, b, c, rfl⟩ : ∃ a b c, ps = [a, b, c] := by
    match ps, hn3 with
    | [a, b, c], _ => exact ⟨a, b, c, rfl⟩
  obtain ⟨u, v, w, rfl⟩ : ∃ u v w, cs = [u, v, w] := by
    match cs, hl3 with
    | [u, v, w], _ => exact ⟨u, v, w, rfl⟩
  have c3 : prog.cellsOf 3 = 1 := by kernel_rfl
  have c4 : prog.cellsOf 4 = 1 := by kernel_rfl
  obtain ⟨x, rfl, e0, _⟩ := (hall 0 _ a rfl rfl).int_inv underlying3
  obtain ⟨y, rfl, e1, _⟩ := (hall 1 _ b rfl rfl).int_inv underlying3
  obtain ⟨z, rfl, e2⟩ := (hall 2 _ c rfl rfl).bool_inv underlying4
  replace e0 : ([u, v, w].drop 0).take (prog.cellsOf 3) = [.int .i64 x] := e0
  replace e1 : ([u, v, w].drop 1).take (prog.cellsOf 3) = [.int .i64 y] := e1
  replace e2 : ([u, v, w].drop 2).take (prog.cellsOf 4) = [.bool z] := e2
  rw [c3] at e0 e1
  rw [c4] at e2
  simp only [List.drop_zero, List.drop_succ_cons, List.take_succ_cons, List.take_zero, List.cons.injEq, and_true] at e0 e1 e2
  subst e0; subst e1; subst e2
  exact ⟨⟨x, y, z⟩, rfl, rfl⟩
theorem lay_folds {h : Heap} {x : Tree} {cs : List Value} (L : Lay prog h 22 x cs) : ∃ (w : Value) (l : List F), cs = [w] ∧ x = .list (l.map treeF) ∧ FR h w l ∧ l.length ≤ maxLen :=
  lay_rows underlying22 (show prog.cellsOf 36 = 3 by kernel_rfl) asz36 (fun x cs => lay_fold) L
end Go.Proofs.Ytgfccaaalkkdlaa.Am
end
