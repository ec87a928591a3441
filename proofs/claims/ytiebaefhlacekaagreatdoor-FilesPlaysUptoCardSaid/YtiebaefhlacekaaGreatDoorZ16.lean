/- The texts of this seat, one behind another (part 16 of 16): the frame (an abstract machine), the contracts of functions, the laws. -/
import Derived.Test.YtiebaefhlacekaaGreatDoorZ15
import Derived.Test.YtiebaefhlacekaaGreatDoorZ10
section
/- What is handed in to FilesPlays, from its reading to the abstract heap. -/
set_option linter.unusedSimpArgs false
set_option linter.unusedVariables false
set_option maxRecDepth 100000
namespace Go.Proofs.YtiebaefhlacekaaGreatDoor.Am
open Go Go.ChangeShapes Go.WideShapes Go.ChangeAt Go.RowKit Go.Proofs.Tryz
structure Dd.ok0 (h : Heap) (d : Dd) : Prop where
  text : LR h d.lv d.L
  runes : ∀ i j, isR ((d.L.getD i []).getD j 0)
  bytes : RdI prog h .u8 d.bv d.xs
  isb : ∀ x, x ∈ d.xs → isB x
def treeD (d : Dd) : Tree := .agg [.num d.k, .num d.n, .str d.s, .list (d.L.map fun xs => .list (xs.map .num)), .list (d.xs.map .num)]
theorem lay_deeds {h : Heap} {x : Tree} {cs : List Value} (L : Lay prog h 22 x cs) : ∃ (w : Value) (ds : List Dd), cs = [w] ∧ x = .list (ds.map treeD) ∧ RS prog h 5 cDd w ds ∧ (∀ d, d ∈ ds → d.ok0 h) ∧ ds.length ≤ maxLen := by
  obtain ⟨w, xs, e1, e2, R, hm⟩ := lay_rows (c := fun d : {d : Dd // d.ok0 h} => cDd d.1) (tree := fun d : {d : Dd // d.ok0 h} => treeD d.1) underlying22 (show prog.cellsOf 34 = 5 by kernel_rfl) asz34 (fun x cs L => by
    obtain ⟨k, n, s, lv, ls, bv, xs, q1, q2, q3, q4, q5, q6⟩ := lay_deed L
    exact ⟨⟨⟨k, n, s, lv, ls, bv, xs⟩, ⟨q3, q4, q5, q6⟩⟩, q2, q1⟩) L
  refine ⟨w, xs.map (·.1), e1, by rw [e2, List.map_map]; rfl, ?_, fun d hd => ?_, by rw [List.length_map]; exact hm⟩
  · unfold RS
    rw [List.length_map, List.flatMap_map]
    exact R
  · obtain ⟨y, _, rfl⟩ := List.mem_map.1 hd
    exact y.2
theorem twL_mem {t : Tree} : ∀ {l : List Tree}, t ∈ l → tw t ≤ twL l
  | [], h => by cases h
  | a :: l, h => by
    simp only [twL]
    rcases List.mem_cons.1 h with rfl | h
    · omega
    · have := twL_mem h; omega
theorem deeds_ok {h : Heap} {ds : List Dd} (ok : ∀ d, d ∈ ds → d.ok0 h) (hb : tw (.list (ds.map treeD)) ≤ 1048576) : ∀ d, d ∈ ds → d.ok h := fun d hd => by
  have h1 := twL_mem (List.mem_map_of_mem (f := treeD) hd)
  simp only [tw] at hb
  have h2 : tw (treeD d) ≤ 1048576 := by omega
  have h3 := deed_bd h2
  have h4 : d.s.size ≤ 1048576 := by
    have : tw (.str d.s) ≤ tw (treeD d) := by
      unfold treeD
      simp only [tw, twL]; omega
    simp only [tw] at this
    omega
  obtain ⟨q1, q2, q3, q4⟩ := ok d hd
  exact ⟨q1, q2, q3, q4, by omega, by omega, by omega⟩
theorem deeds_len {ds : List Dd} (hb : tw (.list (ds.map treeD)) ≤ 1048576) : ds.length ≤ 1000000000000 := by
  simp only [tw] at hb
  have := twL_len (ds.map treeD)
  rw [List.length_map] at this
  omega
end Go.Proofs.YtiebaefhlacekaaGreatDoor.Am
end
