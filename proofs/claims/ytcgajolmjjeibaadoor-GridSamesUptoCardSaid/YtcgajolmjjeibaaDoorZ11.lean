/- The texts of this seat, one behind another (part 11 of 11): the frame (an abstract machine), the contracts of functions, the laws. -/
import Derived.Test.YtcgajolmjjeibaaDoorZ10
import Derived.Test.YtcgajolmjjeibaaDoorZ6
section
/- The abstract heap at a law's begin: the table of ranges, other package variables, and what else is handed in. -/
set_option linter.unusedSimpArgs false
set_option linter.unusedVariables false
set_option maxRecDepth 100000
namespace Go.Proofs.YtcgajolmjjeibaaDoor.Am
open Go Go.ChangeShapes Go.WideShapes Go.ChangeAt Go.RowKit Go.Proofs.Tryd
def emp (g : Nat) : Blk × Loc := (inBlk 3 [], ⟨g, 0, 1, 1, false⟩)
/-- The table, behind the package's other variables, which are never read. -/
def base2 (b off : Nat) : List (Blk × Loc) := [(inBlk 139 [.slice (some ⟨4, 0, none⟩) 18 0], ⟨0, 0, 1, 1, false⟩), emp 1, emp 2, emp 3, (inBlk 140 rgsV, ⟨b, off, 3, off + 54, false⟩)]
theorem base2_lies {W : World} {b off : Nat} (hp : prog.globals.size < W.heap.size) (h1 : W.cell? ⟨0, 0, none⟩ = some (.slice (some ⟨b, off, none⟩) 18 18)) (hb : b < W.heap.size) (h2 : ∀ i v, rgsV[i]? = some v → W.cell? ⟨b, off + i, none⟩ = some v)
    {xs : List (Blk × Loc)} : ∀ x, x ∈ base2 b off → Lies prog W (startRen (base2 b off ++ xs)) x := by
  have hr : startRen (base2 b off ++ xs) 4 = some ⟨b, off, 3, off + 54, false⟩ := rfl
  have h0 : 0 < W.heap.size := by
    rcases Nat.lt_or_ge 0 W.heap.size with h | h
    · exact h
    · have : W.heap[0]? = none := Array.getElem?_eq_none h
      simp [World.cell?, this] at h1
  intro x hx
  rw [nGlobals] at hp
  have em : ∀ g, g < 4 → Lies prog W (startRen (base2 b off ++ xs)) (emp g) := fun g hg => ⟨rfl, rfl, by show g < W.heap.size; omega, ⟨t3, type3, rfl⟩, fun i v hv => by simp [emp, inBlk] at hv⟩
  simp only [base2, List.mem_cons, List.not_mem_nil, or_false] at hx
  rcases hx with rfl | rfl | rfl | rfl | rfl
  · refine ⟨rfl, rfl, h0, ⟨t139, type139, rfl⟩, fun i v hv => ?_⟩
    cases i with
    | zero =>
      simp only [inBlk, List.getElem?_cons_zero, Option.some.injEq] at hv
      subst hv
      exact ⟨rfl, _, h1, VR.slice ⟨rfl, Nat.le_refl _, .inl rfl, .inl ⟨rfl, _, hr, rfl, Nat.le_refl _⟩⟩⟩
    | succ i => simp [inBlk] at hv
  · exact em 1 (by omega)
  · exact em 2 (by omega)
  · exact em 3 (by omega)
  · refine ⟨rfl, rfl, hb, ⟨t140, type140, rfl⟩, fun i v hv => ?_⟩
    have hc := h2 i v hv
    have hint : ∃ z, v = .int .i32 z := by
      have hm := List.mem_of_getElem? hv
      simp only [inBlk, rgsV, List.mem_flatMap, List.mem_cons, List.not_mem_nil, or_false] at hm
      obtain ⟨x, _, rfl | rfl | rfl⟩ := hm <;> exact ⟨_, rfl⟩
    obtain ⟨z, rfl⟩ := hint
    exact ⟨rfl, _, hc, VR.int _ _⟩
theorem base2_glob {b off : Nat} {xs : List (Blk × Loc)} : ∀ g, g < prog.globals.size → ∃ x, (base2 b off ++ xs)[g]? = some x ∧ x.2.blk = g ∧ x.2.off = 0 := by
  intro g hg
  rw [nGlobals] at hg
  have h4 : g = 0 ∨ g = 1 ∨ g = 2 ∨ g = 3 := by omega
  rcases h4 with rfl | rfl | rfl | rfl <;> exact ⟨_, rfl, rfl, rfl⟩
theorem base2_Gl {b off : Nat} {xs : List (Blk × Loc)} : Gl (startHeap (base2 b off ++ xs)) :=
  ⟨_, _, rfl, by simp [startHeap, base2], rfl, rfl, by decide, .inr ⟨4, 0, 0, _, rfl, by simp [startHeap, base2], rfl, rfl, asz140, Nat.le_refl 54, rfl⟩⟩
/-- Of what the laws ask: true, and all is as it was. -/
theorem law_calls {W : World} {f : FuncId} {args args' : Array Value} {xs : List (Blk × Loc)} {b off : Nat} (hp : prog.globals.size < W.heap.size)
    (h1 : W.cell? ⟨0, 0, none⟩ = some (.slice (some ⟨b, off, none⟩) 18 18)) (hb : b < W.heap.size) (h2 : ∀ i v, rgsV[i]? = some v → W.cell? ⟨b, off + i, none⟩ = some v)
    (hx : ∀ x, x ∈ xs → Lies prog W (startRen (base2 b off ++ xs)) x) (hA : AR (startRen (base2 b off ++ xs)) args args')
    (C : ACalls prog f args (startHeap (base2 b off ++ xs)) (fun v h' => v = .bool true ∧ Keeps (startHeap (base2 b off ++ xs)) h')) : Calls prog f args' W fun e W' => e = .returned (.bool true) ∧ Below W.heap.size W W' :=
  ACalls.below (HRel.start (fun x hm => (List.mem_append.1 hm).elim (base2_lies hp h1 hb h2 x) (hx x)) base2_glob) hA C
end Go.Proofs.YtcgajolmjjeibaaDoor.Am
end
