/- The texts of this seat, one behind another (part 25 of 25): the frame (an abstract machine), the contracts of functions, the laws. -/
import Derived.Test.YthmpaddhmgnkbaaDoorZ23
import Derived.Test.YthmpaddhmgnkbaaDoorZ24
import Derived.Test.YthmpaddhmgnkbaaDoorZ15
section
/- The abstract heap at a law's begin: the table of ranges, the table of powers of ten, other package variables, and what else is handed in. -/
set_option linter.unusedSimpArgs false
set_option linter.unusedVariables false
set_option maxRecDepth 100000
namespace Go.Proofs.YthmpaddhmgnkbaaDoor.Am
open Go Go.ChangeShapes Go.WideShapes Go.ChangeAt Go.RowKit Go.Proofs.Tryd
theorem laid_tail {W : World} {x : String × DataW Unit} {r : List (String × DataW Unit)} {ps : List MemPlace} (h : DataW.LaidVars prog W (x :: r) ps) : ∃ q, DataW.LaidVars prog W r q := by
  obtain ⟨n, d⟩ := x
  obtain ⟨g, t, cs, fuel, p, q, _, _, _, _, hq, _⟩ := h
  exact ⟨q, hq⟩
theorem tPow : (prog.globals[1]?).map (·.type) = some 106 := by kernel_rfl
theorem cellsU64 : prog.cellsOf 99 = 1 := by kernel_rfl
theorem cellsP20 : prog.cellsOf 106 = 20 := by kernel_rfl
theorem pow10_of {W : World} (h : laidMetH prog [("inkhorn/cell.ranges", Rows.laid_inkhorn_cell_ranges), ("math/bits.deBruijn32tab", Rows.laid_math_bits_deBruijn32tab), ("math/bits.deBruijn64tab", Rows.laid_math_bits_deBruijn64tab), ("internal/strconv.uint64pow10", Rows.laid_internal_strconv_uint64pow10)] W) :
    Lib.TabIs prog W "internal/strconv.uint64pow10" .u64 Lib.pow10Tab := by
  obtain ⟨ps, hv, _⟩ := h
  obtain ⟨q1, h1⟩ := laid_tail hv
  obtain ⟨q2, h2⟩ := laid_tail h1
  obtain ⟨q3, h3⟩ := laid_tail h2
  obtain ⟨g', t', cs, fuel, p, q, hg', ht', hvar, hd, _, _⟩ := h3
  obtain rfl := Option.some.inj (gPow.symm.trans hg')
  obtain rfl := Option.some.inj (tPow.symm.trans ht')
  have e : cs.toList = Lib.pow10Tab.map fun z => Value.int .u64 z := Lib.cells_of_tab underlying106 underlying99 cellsU64 cellsP20 hd
  unfold Lib.TabIs
  rw [hvar, ← e]
def emp (g : Nat) : Blk × Loc := (inBlk 3 [], ⟨g, 0, 1, 1, false⟩)
def powB : Blk := { inBlk 99 (Lib.pow10Tab.map (Value.int .u64)) with fam := 1 }
/-- The two tables, and the package's other variables, which are never read. -/
def base2 (b off : Nat) : List (Blk × Loc) := [(inBlk 83 [.slice (some ⟨4, 0, none⟩) 18 0], ⟨0, 0, 1, 1, false⟩), (powB, ⟨1, 0, 1, 20, false⟩), emp 2, emp 3, (inBlk 84 rgsV, ⟨b, off, 3, off + 54, false⟩)]
theorem base2_lies {W : World} {b off : Nat} (hp : prog.globals.size < W.heap.size) (h1 : W.cell? ⟨0, 0, none⟩ = some (.slice (some ⟨b, off, none⟩) 18 18)) (hb : b < W.heap.size) (h2 : ∀ i v, rgsV[i]? = some v → W.cell? ⟨b, off + i, none⟩ = some v)
    (h3 : Lib.TabIs prog W "internal/strconv.uint64pow10" .u64 Lib.pow10Tab) {xs : List (Blk × Loc)} : ∀ (i : Nat) x, (base2 b off)[i]? = some x → LiesAt prog W (startRen (base2 b off ++ xs)) i x := by
  have hr : startRen (base2 b off ++ xs) 4 = some ⟨b, off, 3, off + 54, false⟩ := rfl
  have h0 : 0 < W.heap.size := by
    rcases Nat.lt_or_ge 0 W.heap.size with h | h
    · exact h
    · have : W.heap[0]? = none := Array.getElem?_eq_none h
      simp [World.cell?, this] at h1
  rw [nGlobals] at hp
  have em : ∀ g, g < 4 → Lies prog W (startRen (base2 b off ++ xs)) (emp g) := fun g hg => ⟨rfl, rfl, by show g < W.heap.size; omega, ⟨t3, type3, rfl⟩, fun i v hv => by simp [emp, inBlk] at hv⟩
  intro i x hx
  rcases i with _ | _ | _ | _ | _ | i
  · simp only [base2, List.getElem?_cons_zero, Option.some.injEq] at hx
    subst hx
    refine Lies.at ⟨rfl, rfl, h0, ⟨t83, type83, rfl⟩, fun i v hv => ?_⟩
    cases i with
    | zero =>
      simp only [inBlk, List.getElem?_cons_zero, Option.some.injEq] at hv
      subst hv
      exact ⟨rfl, _, h1, VR.slice ⟨rfl, Nat.le_refl _, .inl rfl, .inl ⟨rfl, _, hr, rfl, Nat.le_refl _⟩⟩⟩
    | succ i => simp [inBlk] at hv
  · simp only [base2, List.getElem?_cons_zero, List.getElem?_cons_succ, Option.some.injEq] at hx
    subst hx
    have hvar := h3
    unfold Lib.TabIs World.var? at hvar
    rw [gPow] at hvar
    simp only [Option.bind_some] at hvar
    obtain ⟨arr, t, fr, harr, hcs⟩ : ∃ arr t fr, W.heap[1]? = some (.cells arr t fr) ∧ arr = (Lib.pow10Tab.map fun z => Value.int .u64 z).toArray := by
      split at hvar
      · rename_i cs t fr e
        exact ⟨_, _, _, e, Option.some.inj hvar⟩
      · cases hvar
    refine ⟨rfl, Nat.le_refl 1, fun _ => ⟨arr, t, fr, harr, by rw [hcs]; rfl⟩, by show 1 < W.heap.size; omega, ⟨t99, type99, rfl⟩, fun i v hv => ?_⟩
    have hc : W.cell? ⟨1, i, none⟩ = some v := by
      have := World.var?_cell gPow h3 i
      rw [this]
      have : ((Lib.pow10Tab.map fun z => Value.int IntKind.u64 z).toArray)[i]? = (Lib.pow10Tab.map (Value.int IntKind.u64))[i]? := List.getElem?_toArray
      rw [this]; exact hv
    have hint : ∃ z, v = .int .u64 z := by
      have hm := List.mem_of_getElem? hv
      simp only [powB, inBlk, List.mem_map] at hm
      obtain ⟨z, _, e⟩ := hm
      exact ⟨z, e.symm⟩
    obtain ⟨z, rfl⟩ := hint
    refine ⟨rfl, _, ?_, VR.int _ _⟩
    show W.cell? ⟨1, 0 + i, none⟩ = _
    rw [Nat.zero_add]; exact hc
  · simp only [base2, List.getElem?_cons_zero, List.getElem?_cons_succ, Option.some.injEq] at hx
    subst hx; exact Lies.at (em 2 (by omega))
  · simp only [base2, List.getElem?_cons_zero, List.getElem?_cons_succ, Option.some.injEq] at hx
    subst hx; exact Lies.at (em 3 (by omega))
  · simp only [base2, List.getElem?_cons_zero, List.getElem?_cons_succ, Option.some.injEq] at hx
    subst hx
    refine Lies.at ⟨rfl, rfl, hb, ⟨t84, type84, rfl⟩, fun i v hv => ?_⟩
    have hc := h2 i v hv
    have hint : ∃ z, v = .int .i32 z := by
      have hm := List.mem_of_getElem? hv
      simp only [inBlk, rgsV, List.mem_flatMap, List.mem_cons, List.not_mem_nil, or_false] at hm
      obtain ⟨x, _, rfl | rfl | rfl⟩ := hm <;> exact ⟨_, rfl⟩
    obtain ⟨z, rfl⟩ := hint
    exact ⟨rfl, _, hc, VR.int _ _⟩
  · simp [base2] at hx
theorem base2_glob {b off : Nat} {xs : List (Blk × Loc)} : ∀ g, g < prog.globals.size → ∃ x, (base2 b off ++ xs)[g]? = some x ∧ x.2.blk = g ∧ x.2.off = 0 := by
  intro g hg
  rw [nGlobals] at hg
  have h4 : g = 0 ∨ g = 1 ∨ g = 2 ∨ g = 3 := by omega
  rcases h4 with rfl | rfl | rfl | rfl <;> exact ⟨_, rfl, rfl, rfl⟩
theorem base2_Gl {b off : Nat} {xs : List (Blk × Loc)} : Gl (startHeap (base2 b off ++ xs)) :=
  ⟨_, _, rfl, by simp [startHeap, base2], rfl, rfl, by decide, .inr ⟨4, 0, 0, _, rfl, by simp [startHeap, base2], rfl, rfl, asz84, Nat.le_refl 54, rfl⟩⟩
theorem base2_Gt {b off : Nat} {xs : List (Blk × Loc)} : Gt (startHeap (base2 b off ++ xs)) :=
  ⟨powB, rfl, by simp [startHeap, base2], rfl, rfl, by decide, rfl⟩
/-- Of what the laws ask: true, and all is as it was. -/
theorem law_calls {W : World} {f : FuncId} {args args' : Array Value} {xs : List (Blk × Loc)} {b off : Nat} (hp : prog.globals.size < W.heap.size)
    (h1 : W.cell? ⟨0, 0, none⟩ = some (.slice (some ⟨b, off, none⟩) 18 18)) (hb : b < W.heap.size) (h2 : ∀ i v, rgsV[i]? = some v → W.cell? ⟨b, off + i, none⟩ = some v)
    (h3 : Lib.TabIs prog W "internal/strconv.uint64pow10" .u64 Lib.pow10Tab) (hx : ∀ x, x ∈ xs → Lies prog W (startRen (base2 b off ++ xs)) x) (hA : AR (startRen (base2 b off ++ xs)) args args')
    (C : ACalls prog f args (startHeap (base2 b off ++ xs)) (fun v h' => v = .bool true ∧ Keeps (startHeap (base2 b off ++ xs)) h')) : Calls prog f args' W fun e W' => e = .returned (.bool true) ∧ Below W.heap.size W W' :=
  ACalls.below (HRel.startAt (fun i x hm => by
    rcases Nat.lt_or_ge i (base2 b off).length with hi | hi
    · rw [List.getElem?_append_left hi] at hm
      exact base2_lies hp h1 hb h2 h3 i x hm
    · rw [List.getElem?_append_right hi] at hm
      exact Lies.at (hx x (List.mem_of_getElem? hm))) base2_glob) hA C
end Go.Proofs.YthmpaddhmgnkbaaDoor.Am
end
