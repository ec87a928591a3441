/- The texts of this seat, one behind another (part 12 of 16): the frame (an abstract machine), the contracts of functions, the laws. -/
import Derived.Test.YtiebaefhlacekaaGreatDoorZ11
import Derived.Test.YtiebaefhlacekaaGreatDoorAmStart
import Derived.Test.YtiebaefhlacekaaGreatDoorAmF
import Derived.Deep.DeepHandedRow
import Derived.Deep.DeepWitnessRowRef
import Derived.Carry
section
/- The abstract heap at a law's begin, where the law reads no package variable. -/
set_option linter.unusedSimpArgs false
set_option linter.unusedVariables false
set_option maxRecDepth 100000
namespace Go.Proofs.YtiebaefhlacekaaGreatDoor.Am
open Go Go.ChangeShapes Go.WideShapes Go.ChangeAt Go.RowKit Go.Proofs.Tryz
theorem begin_glob : prog.globals.size < (begin prog (fun _ _ => 0) default).world.heap.size := of_decide_eq_true (by kernel_rfl)
theorem heap_glob {W : World} (h : W.ShapedOpen prog) : prog.globals.size < W.heap.size := by
  obtain ⟨o, _, h1, _⟩ := h.2 prog.globals.size (Nat.le_refl _) begin_glob
  exact (Array.getElem?_eq_some_iff.1 h1).1
noncomputable def base0 : List (Blk × Loc) := (List.range prog.globals.size).map fun g => (inBlk 3 [], ⟨g, 0, 1, 1, false⟩)
theorem range_at {α : Type} {f : Nat → α} {n g : Nat} {xs : List α} (hg : g < n) : ((List.range n).map f ++ xs)[g]? = some (f g) := by
  rw [List.getElem?_append_left (by simp; exact hg)]
  simp [hg]
theorem base0_lies {W : World} (hp : prog.globals.size < W.heap.size) {xs : List (Blk × Loc)} : ∀ x, x ∈ base0 → Lies prog W (startRen (base0 ++ xs)) x := by
  intro x hx
  simp only [base0, List.mem_map, List.mem_range] at hx
  obtain ⟨g, hg, rfl⟩ := hx
  exact ⟨rfl, rfl, by show g < W.heap.size; omega, ⟨t3, type3, rfl⟩, fun i v hv => by simp [inBlk] at hv⟩
theorem base0_glob {xs : List (Blk × Loc)} : ∀ g, g < prog.globals.size → ∃ x, (base0 ++ xs)[g]? = some x ∧ x.2.blk = g ∧ x.2.off = 0 := by
  intro g hg
  refine ⟨(inBlk 3 [], ⟨g, 0, 1, 1, false⟩), ?_, rfl, rfl⟩
  exact range_at hg
/-- Of what the laws ask: true, and all is as it was. -/
theorem law_callsG {W : World} {f : FuncId} {args args' : Array Value} {xs : List (Blk × Loc)} (hp : prog.globals.size < W.heap.size)
    (hx : ∀ x, x ∈ xs → Lies prog W (startRen (base0 ++ xs)) x) (hA : AR (startRen (base0 ++ xs)) args args')
    (C : ACalls prog f args (startHeap (base0 ++ xs)) (fun v h' => v = .bool true ∧ Keeps (startHeap (base0 ++ xs)) h')) : Calls prog f args' W fun e W' => e = .returned (.bool true) ∧ Below W.heap.size W W' :=
  ACalls.below (HRel.start (fun x hm => (List.mem_append.1 hm).elim (base0_lies hp x) (hx x)) base0_glob) hA C
end Go.Proofs.YtiebaefhlacekaaGreatDoor.Am
end
