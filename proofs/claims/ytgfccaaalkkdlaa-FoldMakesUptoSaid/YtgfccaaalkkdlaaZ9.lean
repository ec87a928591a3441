/- The texts of this seat, one behind another (part 9 of 10): the frame (an abstract machine), the contracts of functions, the laws. -/
import Derived.Test.YtgfccaaalkkdlaaZ6
import Derived.Test.YtgfccaaalkkdlaaZ8
import Derived.Test.YtgfccaaalkkdlaaZ7
import Derived.Deep.DeepHandedRow
import Derived.Deep.DeepWitnessRowRef
import Derived.Carry
section
/- The abstract heap at a law's begin is not empty; folds that are handed in. -/
set_option linter.unusedSimpArgs false
set_option linter.unusedVariables false
set_option maxRecDepth 100000
namespace Go.Proofs.Ytgfccaaalkkdlaa.Am
open Go Go.ChangeShapes Go.WideShapes Go.ChangeAt Go.RowKit Go.Proofs.Try
theorem begin_pos : 0 < (begin prog (fun _ _ => 0) default).world.heap.size := of_decide_eq_true (by kernel_rfl)
theorem heap_pos {W : World} (h : W.ShapedOpen prog) : 0 < W.heap.size := by
  obtain ⟨o, _, h1, _⟩ := h.2 0 (by rw [nGlobals0]; exact Nat.le_refl _) begin_pos
  exact (Array.getElem?_eq_some_iff.1 h1).1
end Go.Proofs.Ytgfccaaalkkdlaa.Am
end
section
/- Changes that are handed in, from their reading to the abstract heap. -/
set_option linter.unusedSimpArgs false
set_option linter.unusedVariables false
set_option maxRecDepth 100000
namespace Go.Proofs.Ytgfccaaalkkdlaa.Am
open Go Go.ChangeShapes Go.WideShapes Go.ChangeAt Go.RowKit Go.Proofs.Try
/-- A slice that was handed in: how many it holds. -/
theorem lay_count {P : Program} {h : Heap} {t e : TypeId} {x : Tree} {cs : List Value} (ht : P.underlying t = some (.slice e)) (L : Lay P h t x cs) : ∃ (w : Value) (es : List Tree), cs = [w] ∧ x = .list es ∧ one w = true ∧ abuiltin P .len #[t] #[w] = some (.int .i64 es.length) := by
  obtain ⟨es, rfl, hl, ⟨rfl, rfl⟩ | ⟨b, cells, rfl, hb, hk, hc, hx⟩⟩ := L.slice_inv ht
  · exact ⟨_, [], rfl, rfl, rfl, (Rd.nil0 (P := P) (h := h) (s := 1)).len ht⟩
  · refine ⟨_, es, rfl, rfl, rfl, ?_⟩
    simp [abuiltin, ht]
theorem lay_change {h : Heap} {x : Tree} {cs : List Value} (L : Lay prog h 31 x cs) : ∃ (c : Int) (ov nv : Value) (a b : List Tree), cs = [.int .i64 c, ov, nv] ∧ x = .agg [.num c, .list a, .list b] ∧
    abuiltin prog .len #[29] #[ov] = some (.int .i64 a.length) ∧ abuiltin prog .len #[29] #[nv] = some (.int .i64 b.length) ∧ one ov = true ∧ one nv = true := by
  obtain ⟨ps, rfl, hl, hn, hall⟩ := L.struct_inv underlying31
  have hl3 : cs.length = 3 := hl.trans (show prog.cellsOf 31 = 3 by kernel_rfl)
  have hn3 : ps.length = 3 := hn
  obtain ⟨a, b, c, rfl⟩ : ∃ a b c, ps = [a, b, c] := by
    match ps, hn3 with
    | [a, b, c], _ => exact ⟨a, b, c, rfl⟩
  obtain ⟨u, v, w, rfl⟩ : ∃ u v w, cs = [u, v, w] := by
    match cs, hl3 with
    | [u, v, w], _ => exact ⟨u, v, w, rfl⟩
  have c3 : prog.cellsOf 3 = 1 := by kernel_rfl
  have c4 : prog.cellsOf 29 = 1 := by kernel_rfl
  obtain ⟨x, rfl, e0, _⟩ := (hall 0 _ a rfl rfl).int_inv underlying3
  obtain ⟨y, ya, e1, rfl, o1, n1⟩ := lay_count underlying29 (hall 1 _ b rfl rfl)
  obtain ⟨z, za, e2, rfl, o2, n2⟩ := lay_count underlying29 (hall 2 _ c rfl rfl)
  replace e0 : ([u, v, w].drop 0).take (prog.cellsOf 3) = [.int .i64 x] := e0
  replace e1 : ([u, v, w].drop 1).take (prog.cellsOf 29) = [y] := e1
  replace e2 : ([u, v, w].drop 2).take (prog.cellsOf 29) = [z] := e2
  rw [c3] at e0
  rw [c4] at e1 e2
  simp only [List.drop_zero, List.drop_succ_cons, List.take_succ_cons, List.take_zero, List.cons.injEq, and_true] at e0 e1 e2
  subst e0; subst e1; subst e2
  exact ⟨x, _, _, ya, za, rfl, rfl, n1, n2, o1, o2⟩
end Go.Proofs.Ytgfccaaalkkdlaa.Am
end
