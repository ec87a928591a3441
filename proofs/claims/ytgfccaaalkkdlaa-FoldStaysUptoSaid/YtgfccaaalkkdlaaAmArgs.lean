/- The frame Am, a text beside the others: an argument that is a slice of numbers, from its reading to the abstract heap. Nothing of a program stands here. -/
import Derived.Test.YtgfccaaalkkdlaaAmStart
import Derived.DataShut
import Derived.OpenShut
import Derived.WideKeyArgs
set_option linter.unusedVariables false
set_option linter.unusedSimpArgs false
namespace Go.Proofs.Ytgfccaaalkkdlaa.Am
open Go Go.RowKit Go.ChangeShapes Go.WideShapes
def intOfV : Value → Int
  | .int _ x => x
  | _ => 0
section
variable {H : Type} {enc : TypeId × Value → H} {P : Program} {W : World}
/-- What a slice of numbers that is handed in comes to: a block of its own in the abstract heap (number p), whatever the slice is. -/
theorem arg_intsD {t e : TypeId} {i : TypeInfo} {k : IntKind} {fuel : Nat} {v0 : Value} {x : DataW H × List MemPlace} (ht : P.underlying t = some (.slice e)) (he : P.underlying e = some (.int k)) (hc : P.cellsOf e = 1)
    (hi : P.info? e = some i) (hs : i.size = 1) (h0 : 0 < W.heap.size) (hcell : v0.cells.toList = [v0]) (h : DataW.trod enc P W 0 (fun _ => true) true fuel t v0.cells.toList = some x) (p : Nat) :
    ∃ (xs : List Int) (L : Loc) (v : Value), (∀ z, z ∈ xs → (Lit.int k z).wf = true) ∧ (xs = [] ∨ ∃ es sp, x.1 = .slice es sp ∧ es.length = xs.length) ∧ xs.length ≤ maxLen ∧
      (∀ bs : List (Blk × Loc), bs[p]? = some (inBlk e (xs.map (Value.int k)), L) → Lies P W (startRen bs) (inBlk e (xs.map (Value.int k)), L) ∧ VR (startRen bs) v v0 ∧ RdI P (startHeap bs) k v xs) := by
  have hae : asz P e = some 1 := by simp [asz, hi, hs]
  rw [hcell] at h
  rcases open_ints ht he hc h with ⟨hv, _⟩ | ⟨a, len, cap, zs, hv, _, hlc, hmx, hzl, hxe, hcells, hwf⟩
  · simp only [List.cons.injEq, and_true] at hv
    subst hv
    refine ⟨[], ⟨0, 0, 1, 0, false⟩, .slice none 0 0, fun z hz => by simp at hz, .inl rfl, Nat.zero_le _, fun bs hb => ⟨⟨rfl, rfl, h0, ⟨i, hi, hs⟩, fun j v hj => by simp [inBlk] at hj⟩, VR.nilslice, Rd.nil0⟩⟩
  · simp only [List.cons.injEq, and_true] at hv
    subst hv
    simp only [if_true] at hzl
    by_cases hcap : cap = 0
    · have hlen : len = 0 := by omega
      subst hlen; subst hcap
      refine ⟨[], ⟨0, 0, 1, 0, false⟩, .slice (some ⟨p, 0, none⟩) 0 0, fun z hz => by simp at hz, .inl rfl, Nat.zero_le _, fun bs hb => ⟨⟨rfl, rfl, h0, ⟨i, hi, hs⟩, fun j v hj => by simp [inBlk] at hj⟩, VR.slice ⟨rfl, Nat.le_refl _, .inl rfl, .inr rfl⟩, ?_⟩⟩
      have hlt := (List.getElem?_eq_some_iff.1 hb).1
      exact ⟨by simp, .inr ⟨p, 0, 0, inBlk e [], rfl, hlt, by simp [startHeap, hb], rfl, hae, by simp, by simp⟩⟩
    · have hc0 := hcells 0 (by omega)
      obtain ⟨b, off, spot⟩ := a
      have hspot : spot = none := by
        have := World.cell?_spot hc0
        simpa [Addr.add] using this
      subst hspot
      have hcells' : ∀ j, j < zs.length → W.cell? ⟨b, off + j, none⟩ = some (.int k (zs.getD j 0)) := fun j hj => by
        have := hcells j hj
        rwa [add_plain'] at this
      have hb0 : b < W.heap.size := by
        rcases Nat.lt_or_ge b W.heap.size with h1 | h1
        · exact h1
        · have h2 := hcells' 0 (by omega)
          have : W.heap[b]? = none := Array.getElem?_eq_none h1
          simp [World.cell?, this] at h2
      refine ⟨zs.take len, ⟨b, off, 1, off + cap, false⟩, .slice (some ⟨p, 0, none⟩) len 0, fun z hz => hwf z (List.mem_of_mem_take hz), .inr ⟨_, _, congrArg Prod.fst hxe, by simp [lits]⟩, by simp only [List.length_take]; omega, fun bs hb => ⟨⟨rfl, rfl, hb0, ⟨i, hi, hs⟩, fun j v hj => ?_⟩, VR.slice ⟨rfl, hlc, .inl rfl, .inl ⟨rfl, ⟨b, off, 1, off + cap, false⟩, by simp [startRen, hb], rfl, by simp⟩⟩, ?_⟩⟩
      · simp only [inBlk, List.getElem?_map, Option.map_eq_some_iff] at hj
        obtain ⟨z, hz, rfl⟩ := hj
        have hj1 : j < len := by
          have := (List.getElem?_eq_some_iff.1 hz).1
          simp at this; omega
        rw [List.getElem?_take, if_pos hj1] at hz
        refine ⟨rfl, _, hcells' j (by omega), ?_⟩
        rw [List.getD_eq_getElem?_getD, hz]
        exact VR.int _ _
      · have hlt := (List.getElem?_eq_some_iff.1 hb).1
        have hll : (zs.take len).length = len := by simp; omega
        exact ⟨by simp, .inr ⟨p, 0, 0, inBlk e ((zs.take len).map (Value.int k)), by rw [hll], hlt, by simp [startHeap, hb], rfl, hae, by simp [inBlk], by simp only [inBlk, List.drop_zero, Nat.mul_one]; exact List.take_of_length_le (by simp)⟩⟩
/-- The same, with less said. -/
theorem arg_ints {t e : TypeId} {i : TypeInfo} {k : IntKind} {fuel : Nat} {v0 : Value} {x : DataW H × List MemPlace} (ht : P.underlying t = some (.slice e)) (he : P.underlying e = some (.int k)) (hc : P.cellsOf e = 1)
    (hi : P.info? e = some i) (hs : i.size = 1) (h0 : 0 < W.heap.size) (hcell : v0.cells.toList = [v0]) (h : DataW.trod enc P W 0 (fun _ => true) true fuel t v0.cells.toList = some x) (p : Nat) :
    ∃ (xs : List Int) (L : Loc) (v : Value), (∀ z, z ∈ xs → (Lit.int k z).wf = true) ∧
      (∀ bs : List (Blk × Loc), bs[p]? = some (inBlk e (xs.map (Value.int k)), L) → Lies P W (startRen bs) (inBlk e (xs.map (Value.int k)), L) ∧ VR (startRen bs) v v0 ∧ RdI P (startHeap bs) k v xs) := by
  obtain ⟨xs, L, v, h1, _, _, h2⟩ := arg_intsD ht he hc hi hs h0 hcell h p
  exact ⟨xs, L, v, h1, h2⟩
/-- An array of numbers that is handed in. -/
theorem arg_arr {t e : TypeId} {k : IntKind} {n fuel : Nat} {v0 : Value} {x : DataW H × List MemPlace} (ht : P.underlying t = some (.array n e)) (he : P.underlying e = some (.int k)) (hc : P.cellsOf e = 1) (hct : P.cellsOf t = n) (hn : n ≠ 1)
    (h : DataW.trod enc P W 0 (fun _ => true) true fuel t v0.cells.toList = some x) : ∃ xs : List Int, xs.length = n ∧ v0 = .agg (xs.map (Value.int k)).toArray ∧ ∀ z, z ∈ xs → (Lit.int k z).wf = true := by
  obtain ⟨ys, m, rfl, hx, hl, hyl, hall⟩ := DataW.trod_array ht h
  have hv : ∃ cs, v0 = .agg cs := by
    cases v0 with
    | agg cs => exact ⟨cs, rfl⟩
    | _ => exfalso; rw [hct] at hl; simp [Value.cells] at hl; omega
  obtain ⟨⟨cs⟩, rfl⟩ := hv
  rw [hct] at hl
  have hl' : cs.length = n := by simpa [Value.cells] using hl
  have each : ∀ i, i < n → ∃ z, cs[i]? = some (.int k z) ∧ (Lit.int k z).wf = true := fun i hi => by
    have h1 := hall i hi
    rw [hc] at h1
    simp only [Value.cells, Nat.mul_one] at h1
    have hlt : i < ys.length := by omega
    rw [List.getElem?_eq_getElem hlt] at h1
    obtain ⟨z, g1, g2, g3⟩ := DataW.trod_int he h1
    have := congrArg (·[0]?) g1
    refine ⟨z, ?_, g3⟩
    simpa [List.getElem?_take, List.getElem?_drop] using this
  refine ⟨cs.map intOfV, by simpa using hl', ?_, fun z hz => ?_⟩
  · congr 1
    refine congrArg List.toArray (List.ext_getElem? fun i => ?_)
    rcases Nat.lt_or_ge i n with hi | hi
    · obtain ⟨z, h1, _⟩ := each i hi
      simp [h1, intOfV]
    · rw [List.getElem?_eq_none (by omega), List.getElem?_eq_none (by simp; omega)]
  · obtain ⟨v, hv, rfl⟩ := List.mem_map.1 hz
    obtain ⟨i, hi⟩ := List.mem_iff_getElem?.1 hv
    have hlt := (List.getElem?_eq_some_iff.1 hi).1
    obtain ⟨z, h1, h2⟩ := each i (by omega)
    rw [hi] at h1; cases h1
    exact h2
end
end Go.Proofs.Ytgfccaaalkkdlaa.Am
