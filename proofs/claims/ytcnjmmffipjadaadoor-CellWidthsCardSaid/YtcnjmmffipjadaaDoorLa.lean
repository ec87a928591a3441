/- The first statement of the second chapter, told of abstract memory: CellWidths answers true. -/
import Derived.Test.YtcnjmmffipjadaaDoorFk
set_option linter.unusedSimpArgs false
set_option linter.unusedVariables false
set_option maxHeartbeats 4000000
namespace Go.Proofs.YtcnjmmffipjadaaDoor.Am
open Go Go.RowKit Go.Proofs.Tryd
theorem rdNew' {h : Heap} (H : Wf h) (xs : List Int) : RdI prog (h.new 21 (xs.map (Value.int .i32))) .i32 (.slice (some ⟨h.size, 0, none⟩) xs.length (xs.length + 1)) xs := rdNew H xs
theorem cellWidths_law {r : Int} {h : Heap} (h0 : isR r) (G : Gl h) : ACalls prog 3 #[.int .i32 r] h (fun v h' => v = .bool true ∧ Keeps h h') := by
  refine acalls_of_W' func3 rfl (by kernel_rfl) (by kernel_rfl) (by simp [ntmps3]) ?_
  intro H
  simp only [wk, wt, wl, ↓reduceIte, Nat.reduceEqDiff, Nat.reduceAdd, Nat.zero_add, not_false_eq_true, not_true_eq_false]
  refine (width_ok h0 G).use_pure ?_
  simp only [wk, wt, wl, ↓reduceIte, Nat.reduceEqDiff, Nat.reduceAdd, Nat.zero_add, not_false_eq_true, not_true_eq_false]
  refine refWidth_ok.use_pure ?_
  simp only [wk, wt, wl, ↓reduceIte, Nat.reduceEqDiff, Nat.reduceAdd, Nat.zero_add, not_false_eq_true, not_true_eq_false]
  refine (show_ok h0).use_pure ?_
  simp only [wk, wt, wl, ↓reduceIte, Nat.reduceEqDiff, Nat.reduceAdd, Nat.zero_add, not_false_eq_true, not_true_eq_false]
  have K1 := Keeps.new H 21 ((showL r).map (Value.int .i32))
  refine (refShow_ok h0).use_pure ?_
  simp only [wk, wt, wl, ↓reduceIte, Nat.reduceEqDiff, Nat.reduceAdd, Nat.zero_add, not_false_eq_true, not_true_eq_false]
  have K2 := Keeps.new (Ch.wf K1) 21 ((showL r).map (Value.int .i32))
  have hl := showL_len r
  refine (runes_ok ((rdNew' H (showL r)).keeps K2) (rdNew' (Ch.wf K1) (showL r)) (by omega)).use_pure ?_
  simp only [wk, wt, wl, ↓reduceIte, Nat.reduceEqDiff, Nat.reduceAdd, Nat.zero_add, not_false_eq_true, not_true_eq_false]
  refine (awake_ok (G.keeps (K1.trans K2))).use ?_
  rintro _ h' ⟨rfl, K3⟩
  simp only [wk, wt, wl, ↓reduceIte, Nat.reduceEqDiff, Nat.reduceAdd, Nat.zero_add, not_false_eq_true, not_true_eq_false]
  exact (K1.trans K2).trans K3
end Go.Proofs.YtcnjmmffipjadaaDoor.Am
