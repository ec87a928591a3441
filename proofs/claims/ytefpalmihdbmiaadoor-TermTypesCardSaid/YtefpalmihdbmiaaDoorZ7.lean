/- The texts of this seat, one behind another (part 7 of 10): the frame (an abstract machine), the contracts of functions, the laws. -/
import Derived.Test.YtefpalmihdbmiaaDoorZ4
import Derived.Test.YtefpalmihdbmiaaDoorZ6
import Derived.Carry
section
/- What is handed in to the statements of chapter 21, from its reading to the abstract heap. -/
set_option linter.unusedSimpArgs false
set_option linter.unusedVariables false
set_option maxRecDepth 100000
namespace Go.Proofs.YtefpalmihdbmiaaDoor.Am
open Go Go.ChangeShapes Go.WideShapes Go.ChangeAt Go.RowKit Go.Proofs.Tryd
theorem lay_int1 {t : TypeId} {k : IntKind} {h : Heap} {x : Tree} {cs : List Value} (ht : prog.underlying t = some (.int k)) (L : Lay prog h t x cs) : ∃ z : Int, x = .num z ∧ cs = [.int k z] := by
  obtain ⟨z, e1, e2, _⟩ := L.int_inv ht
  exact ⟨z, e1, e2⟩
theorem fm_one {k : IntKind} {xs : List Int} : xs.flatMap (fun z => [Value.int k z]) = xs.map (Value.int k) := by
  induction xs with
  | nil => rfl
  | cons x xs ih => simp [List.flatMap_cons, ih]
theorem lay_runes {h : Heap} {x : Tree} {cs : List Value} (L : Lay prog h 44 x cs) : ∃ (w : Value) (xs : List Int), cs = [w] ∧ x = .list (xs.map .num) ∧ RdI prog h .i32 w xs ∧ (∀ j, isR (xs.getD j 0)) ∧ xs.length ≤ maxLen := by
  have hwf : ∀ {es : List Tree}, (∀ e, e ∈ es → ∃ cs', Lay prog h 21 e cs') → ∀ z, Tree.num z ∈ es → -2147483648 ≤ z ∧ z ≤ 2147483647 := fun {es} H z hz => by
    obtain ⟨cs', L'⟩ := H _ hz
    obtain ⟨y, e, _, w⟩ := L'.int_inv underlying21
    cases e
    exact (Lit.wf_int_iff .i32 z).1 w
  have L0 := L
  obtain ⟨w, xs, e1, e2, R, hm⟩ := lay_rows (c := fun z : Int => [Value.int .i32 z]) (tree := Tree.num) underlying44 (show prog.cellsOf 21 = 1 by kernel_rfl) asz21 (fun x cs => lay_int1 underlying21) L
  subst e1
  obtain ⟨es, e3, _, h4⟩ := L0.slice_inv underlying44
  rw [e2] at e3
  have e3 : xs.map Tree.num = es := by cases e3; rfl
  refine ⟨w, xs, rfl, e2, by have := R; unfold RS at this; rw [fm_one] at this; exact this, fun j => ?_, hm⟩
  cases hx : xs[j]? with
  | none => simp [List.getD, hx, isR]
  | some z =>
    have hz : Tree.num z ∈ es := by rw [← e3]; exact List.mem_map.2 ⟨z, List.mem_of_getElem? hx, rfl⟩
    have := hwf (es := es) (fun e he => by
      rcases h4 with ⟨rfl, _⟩ | ⟨b, cells, _, _, _, _, hall⟩
      · cases he
      · obtain ⟨i, hi, e⟩ := List.getElem_of_mem he
        exact ⟨_, hall i _ (by rw [← e]; exact List.getElem?_eq_getElem hi)⟩) z hz
    simpa [List.getD, hx, isR] using this
theorem lay_bytes {h : Heap} {x : Tree} {cs : List Value} (L : Lay prog h 29 x cs) : ∃ (w : Value) (xs : List Int), cs = [w] ∧ x = .list (xs.map .num) ∧ RdI prog h .u8 w xs ∧ (∀ x, x ∈ xs → isB x) ∧ xs.length ≤ maxLen := by
  have hwf : ∀ {es : List Tree}, (∀ e, e ∈ es → ∃ cs', Lay prog h 5 e cs') → ∀ z, Tree.num z ∈ es → 0 ≤ z ∧ z ≤ 255 := fun {es} H z hz => by
    obtain ⟨cs', L'⟩ := H _ hz
    obtain ⟨y, e, _, w⟩ := L'.int_inv underlying5
    cases e
    exact (Lit.wf_int_iff .u8 z).1 w
  have L0 := L
  obtain ⟨w, xs, e1, e2, R, hm⟩ := lay_rows (c := fun z : Int => [Value.int .u8 z]) (tree := Tree.num) underlying29 (show prog.cellsOf 5 = 1 by kernel_rfl) asz5 (fun x cs => lay_int1 underlying5) L
  subst e1
  obtain ⟨es, e3, _, h4⟩ := L0.slice_inv underlying29
  rw [e2] at e3
  have e3 : xs.map Tree.num = es := by cases e3; rfl
  refine ⟨w, xs, rfl, e2, by have := R; unfold RS at this; rw [fm_one] at this; exact this, fun z hx => ?_, hm⟩
  have hz : Tree.num z ∈ es := by rw [← e3]; exact List.mem_map.2 ⟨z, hx, rfl⟩
  have := hwf (es := es) (fun e he => by
    rcases h4 with ⟨rfl, _⟩ | ⟨b, cells, _, _, _, _, hall⟩
    · cases he
    · obtain ⟨i, hi, e⟩ := List.getElem_of_mem he
      exact ⟨_, hall i _ (by rw [← e]; exact List.getElem?_eq_getElem hi)⟩) z hz
  simp [isB]; omega
theorem lay_size {h : Heap} {x : Tree} {cs : List Value} (L : Lay prog h 23 x cs) : ∃ (sr : Int) (sc : Int), cs = [.int .i64 sr, .int .i64 sc] ∧ x = .agg [.num sr, .num sc] ∧ (Lit.int .i64 sr).wf = true ∧ (Lit.int .i64 sc).wf = true := by
  obtain ⟨ps, rfl, hl, hn, hall⟩ := L.struct_inv underlying23
  have hlm : cs.length = 2 := hl.trans (show prog.cellsOf 23 = 2 by kernel_rfl)
  have hnm : ps.length = 2 := hn
  obtain ⟨a0, a1, rfl⟩ : ∃ a0 a1, ps = [a0, a1] := by
    match ps, hnm with
    | [a0, a1], _ => exact ⟨a0, a1, rfl⟩
  obtain ⟨c0, c1, rfl⟩ : ∃ c0 c1, cs = [c0, c1] := by
    match cs, hlm with
    | [c0, c1], _ => exact ⟨c0, c1, rfl⟩
  obtain ⟨sr, rfl, e0, f0⟩ := (hall 0 _ a0 rfl rfl).int_inv underlying3
  replace e0 : ([c0, c1].drop 0).take (prog.cellsOf 3) = [.int .i64 sr] := e0
  rw [show prog.cellsOf 3 = 1 by kernel_rfl] at e0
  simp only [List.drop_zero, List.drop_succ_cons, List.take_succ_cons, List.take_zero, List.cons.injEq, and_true] at e0
  obtain ⟨sc, rfl, e1, f1⟩ := (hall 1 _ a1 rfl rfl).int_inv underlying3
  replace e1 : ([c0, c1].drop 1).take (prog.cellsOf 3) = [.int .i64 sc] := e1
  rw [show prog.cellsOf 3 = 1 by kernel_rfl] at e1
  simp only [List.drop_zero, List.drop_succ_cons, List.take_succ_cons, List.take_zero, List.cons.injEq, and_true] at e1
  subst e0
  subst e1
  exact ⟨_, _, rfl, rfl, f0, f1⟩
end Go.Proofs.YtefpalmihdbmiaaDoor.Am
end
