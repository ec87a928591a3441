/- The texts of this seat, one behind another (part 24 of 25): the frame (an abstract machine), the contracts of functions, the laws. -/
import Derived.Test.YthmpaddhmgnkbaaDoorZ19
import Derived.Test.YthmpaddhmgnkbaaDoorZ17
import Derived.Test.YthmpaddhmgnkbaaDoorZ11
import Derived.Deep.DeepHandedRow
import Derived.Deep.DeepWitnessRowRef
import Derived.Carry
section
/- The abstract heap at a law's begin, where the law reads no package variable. -/
set_option linter.unusedSimpArgs false
set_option linter.unusedVariables false
set_option maxRecDepth 100000
namespace Go.Proofs.YthmpaddhmgnkbaaDoor.Am
open Go Go.ChangeShapes Go.WideShapes Go.ChangeAt Go.RowKit Go.Proofs.Tryd
theorem begin_glob : prog.globals.size < (begin prog (fun _ _ => 0) default).world.heap.size := of_decide_eq_true (by kernel_rfl)
theorem heap_glob {W : World} (h : W.ShapedOpen prog) : prog.globals.size < W.heap.size := by
  obtain ⟨o, _, h1, _⟩ := h.2 prog.globals.size (Nat.le_refl _) begin_glob
  exact (Array.getElem?_eq_some_iff.1 h1).1
end Go.Proofs.YthmpaddhmgnkbaaDoor.Am
end
