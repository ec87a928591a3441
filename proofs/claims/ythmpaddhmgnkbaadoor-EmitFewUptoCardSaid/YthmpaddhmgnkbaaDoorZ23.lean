/- The texts of this seat, one behind another (part 23 of 25): the frame (an abstract machine), the contracts of functions, the laws. -/
import Derived.Test.YthmpaddhmgnkbaaDoorZ12
import Derived.Test.YthmpaddhmgnkbaaDoorZ17
import Derived.Test.YthmpaddhmgnkbaaDoorCards
import Derived.Test.YthmpaddhmgnkbaaDoorTie
import Derived.WalkKit
import Derived.ProofKit
import Derived.OpenShut
import Derived.Deep.DeepHandedRow
import Derived.Deep.DeepWitnessRowRef
import Derived.Deep.Slices
import Derived.Lib.LaidTab
import Derived.LaidMore
import Derived.DataShut
section
/- What the row's list gives, where it lists more behind the table of ranges. -/
set_option linter.unusedSimpArgs false
set_option linter.unusedVariables false
set_option maxRecDepth 100000
namespace Go.Proofs.YthmpaddhmgnkbaaDoor.Am
open Go Go.ChangeShapes Go.WideShapes Go.ChangeAt Go.RowKit Go.Proofs.Tryd
theorem gRanges : prog.globalNamed "inkhorn/cell.ranges" = some 0 := by kernel_rfl
theorem tRanges : (prog.globals[0]?).map (·.type) = some 83 := by kernel_rfl
theorem nGlobals : prog.globals.size = 4 := by kernel_rfl
theorem cells42 : prog.cellsOf 84 = 3 := by kernel_rfl
theorem cells21 : prog.cellsOf 21 = 1 := by kernel_rfl
theorem laid_at : ∀ i, i < 18 → (match (Rows.laid_inkhorn_cell_ranges : DataW Unit) with | .slice l _ => l | _ => [])[i]? = some (Lib.tabData .i32 [rlo i, rhi i, rwd i]) := by
  intro n hn
  iterate 18 (cases n with | zero => exact rfl | succ n => ?_)
  omega
theorem table {W : World} (h : laidMetH prog [("inkhorn/cell.ranges", Rows.laid_inkhorn_cell_ranges), ("math/bits.deBruijn32tab", Rows.laid_math_bits_deBruijn32tab), ("math/bits.deBruijn64tab", Rows.laid_math_bits_deBruijn64tab), ("internal/strconv.uint64pow10", Rows.laid_internal_strconv_uint64pow10)] W) :
    ∃ b off, W.cell? ⟨0, 0, none⟩ = some (.slice (some ⟨b, off, none⟩) 18 18) ∧ b < W.heap.size ∧ ∀ i v, rgsV[i]? = some v → W.cell? ⟨b, off + i, none⟩ = some v := by
  obtain ⟨ps, ⟨g', t', cs, fuel, p, q, hg', ht', hvar, hd, _, _⟩, _⟩ := h
  obtain rfl := Option.some.inj (gRanges.symm.trans hg')
  obtain rfl := Option.some.inj (tRanges.symm.trans ht')
  rcases Go.Deep.open_slice underlying83 hd with ⟨_, e⟩ | ⟨a, len, cap, m, n, D, Pl, hcs, _, hlc, _, hm, hx, hall⟩
  · exact absurd (congrArg Prod.fst e) (by intro h; cases h)
  have hx1 := congrArg Prod.fst hx
  simp only [if_true] at hm
  subst hm
  have e1 : (match (Rows.laid_inkhorn_cell_ranges : DataW Unit) with | .slice l _ => l | _ => []) = (List.range len).map D := congrArg (fun d : DataW Unit => match d with | .slice l _ => l | _ => []) hx1
  have e2 : ([] : List (DataW Unit)) = (List.range (m - len)).map (fun j => D (len + j)) := congrArg (fun d : DataW Unit => match d with | .slice _ l => l | _ => []) hx1
  have hlen : len = 18 := by
    have := congrArg List.length e1
    rw [List.length_map, List.length_range] at this
    exact this.symm
  have hcap : m = 18 := by
    have := congrArg List.length e2
    simp at this
    omega
  subst hlen
  subst hcap
  have hD : ∀ i, i < 18 → D i = Lib.tabData .i32 [rlo i, rhi i, rwd i] := fun i hi => by
    have := laid_at i hi
    rw [e1] at this
    simpa [hi] using this
  have hrow : ∀ i, i < 18 → ∀ j, j < 3 → W.cell? ((a.add (i * 3)).add j) = ([rlo i, rhi i, rwd i].map fun z => Value.int .i32 z)[j]? := fun i hi j hj => by
    obtain ⟨cs', h1, h2⟩ := hall i hi
    rw [hD i hi] at h2
    rw [cells42] at h1
    have h3 := Lib.cells_of_tab underlying84 underlying21 cells21 cells42 h2
    rw [← h3]
    exact (World.cells?_some h1).2.2 j hj
  obtain ⟨b, off, spot⟩ := a
  have hspot : spot = none := by
    have h0 := hrow 0 (by omega) 0 (by omega)
    have := World.cell?_spot (h0.trans rfl)
    simpa [Addr.add] using this
  subst hspot
  have hv := World.var?_cell gRanges hvar 0
  rw [Array.eq_one_of_toList hcs] at hv
  refine ⟨b, off, by simpa using hv, ?_, fun k v hk => ?_⟩
  · have h0 := hrow 0 (by omega) 0 (by omega)
    simp only [add_plain', Nat.zero_mul, Nat.add_zero] at h0
    rcases Nat.lt_or_ge b W.heap.size with h1 | h1
    · exact h1
    · have : W.heap[b]? = none := by simp [h1]
      simp [World.cell?, this] at h0
  · have hk54 : k < 54 := by
      have := (List.getElem?_eq_some_iff.1 hk).1
      exact this
    have hr := rgsV_at ⟨k / 3, by omega⟩
    have hc := hrow (k / 3) (by omega) (k % 3) (by omega)
    simp only [add_plain'] at hc
    have hkk : off + k / 3 * 3 + k % 3 = off + k := by omega
    rw [hkk] at hc
    rw [hc]
    have h3 : k % 3 = 0 ∨ k % 3 = 1 ∨ k % 3 = 2 := by omega
    simp only at hr
    rcases h3 with h3 | h3 | h3
    · have e : k / 3 * 3 + 0 = k := by omega
      rw [e] at hr; rw [h3]; rw [hr.1] at hk; cases hk; rfl
    · have e : k / 3 * 3 + 1 = k := by omega
      rw [e] at hr; rw [h3]; rw [hr.2.1] at hk; cases hk; rfl
    · have e : k / 3 * 3 + 2 = k := by omega
      rw [e] at hr; rw [h3]; rw [hr.2.2] at hk; cases hk; rfl
end Go.Proofs.YthmpaddhmgnkbaaDoor.Am
end
