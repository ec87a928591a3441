/- The texts of this seat, one behind another (part 2 of 10): the frame (an abstract machine), the contracts of functions, the laws. -/
import Derived.Test.YtefpalmihdbmiaaDoorZ1
import Derived.Test.YtefpalmihdbmiaaDoorCards
import Derived.Test.YtefpalmihdbmiaaDoorTie
import Derived.Test.YtefpalmihdbmiaaDoorAmStart
import Derived.WalkKit
import Derived.ProofKit
import Derived.OpenShut
import Derived.Deep.DeepHandedRow
import Derived.Deep.DeepWitnessRowRef
import Derived.Deep.Slices
import Derived.Lib.LaidTab
import Derived.LaidMore
import Derived.DataShut
section
/- What the row's list gives: the table of ranges in memory; the abstract heap at a law's begin. -/
set_option linter.unusedSimpArgs false
set_option linter.unusedVariables false
set_option maxRecDepth 100000
namespace Go.Proofs.YtefpalmihdbmiaaDoor.Am
open Go Go.ChangeShapes Go.WideShapes Go.ChangeAt Go.RowKit Go.Proofs.Tryd
theorem gRanges : prog.globalNamed "inkhorn/cell.ranges" = some 0 := by kernel_rfl
theorem tRanges : (prog.globals[0]?).map (·.type) = some 90 := by kernel_rfl
theorem nGlobals : prog.globals.size = 1 := by kernel_rfl
theorem cells42 : prog.cellsOf 91 = 3 := by kernel_rfl
theorem cells21 : prog.cellsOf 21 = 1 := by kernel_rfl
theorem laid_at : ∀ i, i < 18 → (match (Rows.laid_inkhorn_cell_ranges : DataW Unit) with | .slice l _ => l | _ => [])[i]? = some (Lib.tabData .i32 [rlo i, rhi i, rwd i]) := by
  intro n hn
  iterate 18 (cases n with | zero => exact rfl | succ n => ?_)
  omega
theorem table {W : World} (h : laidMetH prog [("inkhorn/cell.ranges", Rows.laid_inkhorn_cell_ranges)] W) :
    ∃ b off, W.cell? ⟨0, 0, none⟩ = some (.slice (some ⟨b, off, none⟩) 18 18) ∧ b < W.heap.size ∧ ∀ i v, rgsV[i]? = some v → W.cell? ⟨b, off + i, none⟩ = some v := by
  obtain ⟨ps, ⟨g', t', cs, fuel, p, q, hg', ht', hvar, hd, _, _⟩, _⟩ := h
  obtain rfl := Option.some.inj (gRanges.symm.trans hg')
  obtain rfl := Option.some.inj (tRanges.symm.trans ht')
  rcases Go.Deep.open_slice underlying90 hd with ⟨_, e⟩ | ⟨a, len, cap, m, n, D, Pl, hcs, _, hlc, _, hm, hx, hall⟩
  · exact absurd (congrArg Prod.fst e) (by intro h; cases h)
  have hx1 := congrArg Prod.fst hx
  simp only [if_true] at hm
  subst hm
  have e1 : (match (Rows.laid_inkhorn_cell_ranges : DataW Unit) with | .slice l _ => l | _ => []) = (List.range len).map D := congrArg (fun d : DataW Unit => match d with | .slice l _ => l | _ => []) hx1
  have e2 : ([] : List (DataW Unit)) = (List.range (m - len)).map (fun j => D (len + j)) := congrArg (fun d : DataW Unit => match d with | .slice _ l => l | _ => []) hx1
  have hlen : len = 18 := by
    have := congrArg List.length e1
    rw [List.length_map, List.length_range] at this
    exact this.symm
  have hcap : m = 18 := by
    have := congrArg List.length e2
    simp at this
    omega
  subst hlen
  subst hcap
  have hD : ∀ i, i < 18 → D i = Lib.tabData .i32 [rlo i, rhi i, rwd i] := fun i hi => by
    have := laid_at i hi
    rw [e1] at this
    simpa [hi] using this
  have hrow : ∀ i, i < 18 → ∀ j, j < 3 → W.cell? ((a.add (i * 3)).add j) = ([rlo i, rhi i, rwd i].map fun z => Value.int .i32 z)[j]? := fun i hi j hj => by
    obtain ⟨cs', h1, h2⟩ := hall i hi
    rw [hD i hi] at h2
    rw [cells42] at h1
    have h3 := Lib.cells_of_tab underlying91 underlying21 cells21 cells42 h2
    rw [← h3]
    exact (World.cells?_some h1).2.2 j hj
  obtain ⟨b, off, spot⟩ := a
  have hspot : spot = none := by
    have h0 := hrow 0 (by omega) 0 (by omega)
    have := World.cell?_spot (h0.trans rfl)
    simpa [Addr.add] using this
  subst hspot
  have hv := World.var?_cell gRanges hvar 0
  rw [Array.eq_one_of_toList hcs] at hv
  refine ⟨b, off, by simpa using hv, ?_, fun k v hk => ?_⟩
  · have h0 := hrow 0 (by omega) 0 (by omega)
    simp only [add_plain', Nat.zero_mul, Nat.add_zero] at h0
    rcases Nat.lt_or_ge b W.heap.size with h1 | h1
    · exact h1
    · have : W.heap[b]? = none := by simp [h1]
      simp [World.cell?, this] at h0
  · have hk54 : k < 54 := by
      have := (List.getElem?_eq_some_iff.1 hk).1
      exact this
    have hr := rgsV_at ⟨k / 3, by omega⟩
    have hc := hrow (k / 3) (by omega) (k % 3) (by omega)
    simp only [add_plain'] at hc
    have hkk : off + k / 3 * 3 + k % 3 = off + k := by omega
    rw [hkk] at hc
    rw [hc]
    have h3 : k % 3 = 0 ∨ k % 3 = 1 ∨ k % 3 = 2 := by omega
    simp only at hr
    rcases h3 with h3 | h3 | h3
    · have e : k / 3 * 3 + 0 = k := by omega
      rw [e] at hr; rw [h3]; rw [hr.1] at hk; cases hk; rfl
    · have e : k / 3 * 3 + 1 = k := by omega
      rw [e] at hr; rw [h3]; rw [hr.2.1] at hk; cases hk; rfl
    · have e : k / 3 * 3 + 2 = k := by omega
      rw [e] at hr; rw [h3]; rw [hr.2.2] at hk; cases hk; rfl
end Go.Proofs.YtefpalmihdbmiaaDoor.Am
end
section
/- The abstract heap at a law's begin: the table of ranges, and what else is handed in. -/
set_option linter.unusedSimpArgs false
set_option linter.unusedVariables false
set_option maxRecDepth 100000
namespace Go.Proofs.YtefpalmihdbmiaaDoor.Am
open Go Go.ChangeShapes Go.WideShapes Go.ChangeAt Go.RowKit Go.Proofs.Tryd
def base2 (b off : Nat) : List (Blk × Loc) := [(inBlk 90 [.slice (some ⟨1, 0, none⟩) 18 0], ⟨0, 0, 1, 1, false⟩), (inBlk 91 rgsV, ⟨b, off, 3, off + 54, false⟩)]
theorem base2_lies {W : World} {b off : Nat} (h1 : W.cell? ⟨0, 0, none⟩ = some (.slice (some ⟨b, off, none⟩) 18 18)) (hb : b < W.heap.size) (h2 : ∀ i v, rgsV[i]? = some v → W.cell? ⟨b, off + i, none⟩ = some v)
    {xs : List (Blk × Loc)} : ∀ x, x ∈ base2 b off → Lies prog W (startRen (base2 b off ++ xs)) x := by
  have hr : startRen (base2 b off ++ xs) 1 = some ⟨b, off, 3, off + 54, false⟩ := rfl
  have h0 : 0 < W.heap.size := by
    rcases Nat.lt_or_ge 0 W.heap.size with h | h
    · exact h
    · have : W.heap[0]? = none := Array.getElem?_eq_none h
      simp [World.cell?, this] at h1
  intro x hx
  simp only [base2, List.mem_cons, List.not_mem_nil, or_false] at hx
  rcases hx with rfl | rfl
  · refine ⟨rfl, rfl, h0, ⟨t90, type90, rfl⟩, fun i v hv => ?_⟩
    cases i with
    | zero =>
      simp only [inBlk, List.getElem?_cons_zero, Option.some.injEq] at hv
      subst hv
      exact ⟨rfl, _, h1, VR.slice ⟨rfl, Nat.le_refl _, .inl rfl, .inl ⟨rfl, _, hr, rfl, Nat.le_refl _⟩⟩⟩
    | succ i => simp [inBlk] at hv
  · refine ⟨rfl, rfl, hb, ⟨t91, type91, rfl⟩, fun i v hv => ?_⟩
    have hc := h2 i v hv
    have hint : ∃ z, v = .int .i32 z := by
      have hm := List.mem_of_getElem? hv
      simp only [inBlk, rgsV, List.mem_flatMap, List.mem_cons, List.not_mem_nil, or_false] at hm
      obtain ⟨x, _, rfl | rfl | rfl⟩ := hm <;> exact ⟨_, rfl⟩
    obtain ⟨z, rfl⟩ := hint
    exact ⟨rfl, _, hc, VR.int _ _⟩
theorem base2_glob {b off : Nat} {xs : List (Blk × Loc)} : ∀ g, g < prog.globals.size → ∃ x, (base2 b off ++ xs)[g]? = some x ∧ x.2.blk = g ∧ x.2.off = 0 := by
  intro g hg
  rw [nGlobals] at hg
  obtain rfl : g = 0 := by omega
  exact ⟨_, rfl, rfl, rfl⟩
theorem base2_Gl {b off : Nat} {xs : List (Blk × Loc)} : Gl (startHeap (base2 b off ++ xs)) :=
  ⟨_, _, rfl, by simp [startHeap, base2], rfl, rfl, by decide, .inr ⟨1, 0, 0, _, rfl, by simp [startHeap, base2], rfl, rfl, asz91, Nat.le_refl 54, rfl⟩⟩
/-- Of what the laws ask: true, and all is as it was. -/
theorem law_calls {W : World} {f : FuncId} {args args' : Array Value} {xs : List (Blk × Loc)} {b off : Nat}
    (h1 : W.cell? ⟨0, 0, none⟩ = some (.slice (some ⟨b, off, none⟩) 18 18)) (hb : b < W.heap.size) (h2 : ∀ i v, rgsV[i]? = some v → W.cell? ⟨b, off + i, none⟩ = some v)
    (hx : ∀ x, x ∈ xs → Lies prog W (startRen (base2 b off ++ xs)) x) (hA : AR (startRen (base2 b off ++ xs)) args args')
    (C : ACalls prog f args (startHeap (base2 b off ++ xs)) (fun v h' => v = .bool true ∧ Keeps (startHeap (base2 b off ++ xs)) h')) : Calls prog f args' W fun e W' => e = .returned (.bool true) ∧ Below W.heap.size W W' :=
  ACalls.below (HRel.start (fun x hm => (List.mem_append.1 hm).elim (base2_lies h1 hb h2 x) (hx x)) base2_glob) hA C
end Go.Proofs.YtefpalmihdbmiaaDoor.Am
end
