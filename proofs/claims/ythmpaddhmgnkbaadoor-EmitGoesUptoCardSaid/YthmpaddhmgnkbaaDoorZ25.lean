/- The texts of this seat, one behind another (part 25 of 25): the frame (an abstract machine), the contracts of functions, the laws. -/
import Derived.Test.YthmpaddhmgnkbaaDoorZ15
import Derived.Test.YthmpaddhmgnkbaaDoorZ21
section
/- A row of grids that is handed in. -/
set_option linter.unusedSimpArgs false
set_option linter.unusedVariables false
set_option maxRecDepth 100000
namespace Go.Proofs.YthmpaddhmgnkbaaDoor.Am
open Go Go.ChangeShapes Go.WideShapes Go.ChangeAt Go.RowKit Go.Proofs.Tryd
def GIn (h : Heap) (p : PG) : Prop := GR h p.1 p.2.l ∧ CelR p.2.l
theorem lay_grids {h : Heap} {x : Tree} {cs : List Value} (L : Lay prog h 38 x cs) : ∃ (w : Value) (l : List PG), cs = [w] ∧ x = .list (l.map fun p => treeG p.2) ∧ LG h w l ∧ ∀ p, p ∈ l → CelR p.2.l := by
  obtain ⟨w, l, e1, e2, R, hm⟩ := lay_rows (α := {p : PG // GIn h p}) (c := fun p => cG p.1) (tree := fun p => treeG p.1.2) underlying38 (show prog.cellsOf 24 = 5 by kernel_rfl) asz24 (fun x cs L => by
    obtain ⟨cv, g, f1, f2, f3, f4⟩ := lay_grid L
    exact ⟨⟨(cv, g), f3, f4⟩, f2, f1⟩) L
  refine ⟨w, l.map Subtype.val, e1, by rw [e2, List.map_map]; rfl, ⟨?_, fun p hp => ?_⟩, fun p hp => ?_⟩
  · have R' := R
    unfold RS at R'
    unfold RS
    rw [List.length_map, List.flatMap_map]; exact R'
  · obtain ⟨a, _, rfl⟩ := List.mem_map.1 hp
    exact a.2.1
  · obtain ⟨a, _, rfl⟩ := List.mem_map.1 hp
    exact a.2.2
/-- What the bound on the input gives of grids. -/
theorem small_grids {H : Type} {l : List (DataW H)} {d : DataW H} {gs : List PG} (hk : Rows.uptoSmall H l = true) (hd : d ∈ l) (D : Dat d (.list (gs.map fun p => treeG p.2))) (hR : ∀ p, p ∈ gs → CelR p.2.l) : (∀ p, p ∈ gs → TxR p.2.l) ∧ gs.length ≤ 1048576 := by
  have h1 := small_tree hk hd D
  simp only [tw] at h1
  have h2 := twL_len (gs.map fun p => treeG p.2)
  rw [List.length_map] at h2
  refine ⟨fun p hp c hc => ⟨hR p hp c hc, ?_⟩, by omega⟩
  obtain ⟨i, hi⟩ := List.mem_iff_getElem?.1 hp
  have h3 := twL_get (l := gs.map fun p => treeG p.2) (i := i) (x := treeG p.2) (by rw [List.getElem?_map, hi]; rfl)
  have h4 := (tw_cells (l := p.2.l)).1 c hc
  generalize twL (gs.map fun p => treeG p.2) = T at h1 h2 h3
  simp only [treeG, treeCs, tw, twL] at h3
  omega
end Go.Proofs.YthmpaddhmgnkbaaDoor.Am
end
