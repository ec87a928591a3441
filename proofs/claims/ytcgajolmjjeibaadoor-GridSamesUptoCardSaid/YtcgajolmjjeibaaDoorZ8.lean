/- The texts of this seat, one behind another (part 8 of 11): the frame (an abstract machine), the contracts of functions, the laws. -/
import Derived.Test.YtcgajolmjjeibaaDoorZ6
import Derived.Test.YtcgajolmjjeibaaDoorZ7
import Derived.Test.YtcgajolmjjeibaaDoorZ1
import Derived.Test.YtcgajolmjjeibaaDoorAmRecs
import Derived.Carry
section
/- What is handed in to the statements of chapter 20, from its reading to the abstract heap. -/
set_option linter.unusedSimpArgs false
set_option linter.unusedVariables false
set_option maxRecDepth 100000
namespace Go.Proofs.YtcgajolmjjeibaaDoor.Am
open Go Go.ChangeShapes Go.WideShapes Go.ChangeAt Go.RowKit Go.Proofs.Tryd
theorem lay_int1 {t : TypeId} {k : IntKind} {h : Heap} {x : Tree} {cs : List Value} (ht : prog.underlying t = some (.int k)) (L : Lay prog h t x cs) : ∃ z : Int, x = .num z ∧ cs = [.int k z] := by
  obtain ⟨z, e1, e2, _⟩ := L.int_inv ht
  exact ⟨z, e1, e2⟩
theorem fm_one {k : IntKind} {xs : List Int} : xs.flatMap (fun z => [Value.int k z]) = xs.map (Value.int k) := by
  induction xs with
  | nil => rfl
  | cons x xs ih => simp [List.flatMap_cons, ih]
theorem lay_i32 {h : Heap} {x : Tree} {cs : List Value} (L : Lay prog h 23 x cs) : ∃ (w : Value) (xs : List Int), cs = [w] ∧ x = .list (xs.map .num) ∧ RdI prog h .i32 w xs ∧ (∀ z, z ∈ xs → isR z) ∧ xs.length ≤ maxLen := by
  have hwf : ∀ {es : List Tree}, (∀ e, e ∈ es → ∃ cs', Lay prog h 21 e cs') → ∀ z, Tree.num z ∈ es → -2147483648 ≤ z ∧ z ≤ 2147483647 := fun {es} H z hz => by
    obtain ⟨cs', L'⟩ := H _ hz
    obtain ⟨y, e, _, w⟩ := L'.int_inv underlying21
    cases e
    exact (Lit.wf_int_iff .i32 z).1 w
  have L0 := L
  obtain ⟨w, xs, e1, e2, R, hm⟩ := lay_rows (c := fun z : Int => [Value.int .i32 z]) (tree := Tree.num) underlying23 (show prog.cellsOf 21 = 1 by kernel_rfl) asz21 (fun x cs => lay_int1 underlying21) L
  subst e1
  obtain ⟨es, e3, _, h4⟩ := L0.slice_inv underlying23
  rw [e2] at e3
  have e3 : xs.map Tree.num = es := by cases e3; rfl
  refine ⟨w, xs, rfl, e2, by have := R; unfold RS at this; rw [fm_one] at this; exact this, fun z hx => ?_, hm⟩
  have hz : Tree.num z ∈ es := by rw [← e3]; exact List.mem_map.2 ⟨z, hx, rfl⟩
  have := hwf (es := es) (fun e he => by
    rcases h4 with ⟨rfl, _⟩ | ⟨b, cells, _, _, _, _, hall⟩
    · cases he
    · obtain ⟨i, hi, e⟩ := List.getElem_of_mem he
      exact ⟨_, hall i _ (by rw [← e]; exact List.getElem?_eq_getElem hi)⟩) z hz
  exact this
end Go.Proofs.YtcgajolmjjeibaaDoor.Am
end
