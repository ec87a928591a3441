/- The texts of this seat, one behind another (part 11 of 11): the frame (an abstract machine), the contracts of functions, the laws. -/
import Derived.Test.YtefpalmihdbmiaaDoorZ7
import Derived.Test.YtefpalmihdbmiaaDoorZ10
section
/- Pieces of bytes that are handed in, from their reading to the abstract heap. -/
set_option linter.unusedSimpArgs false
set_option linter.unusedVariables false
set_option maxRecDepth 100000
namespace Go.Proofs.YtefpalmihdbmiaaDoor.Am
open Go Go.ChangeShapes Go.WideShapes Go.ChangeAt Go.RowKit Go.Proofs.Tryd
theorem lay_pieces {h : Heap} {x : Tree} {cs : List Value} (L : Lay prog h 24 x cs) : ∃ (w : Value) (ls : List (List Int)), cs = [w] ∧ x = .list (ls.map fun xs => .list (xs.map .num)) ∧ LPs h w ls := by
  obtain ⟨es, rfl, _, ⟨rfl, rfl⟩ | ⟨b, cells, rfl, hb, hk, hc, hall⟩⟩ := L.slice_inv underlying24
  · exact ⟨_, [], rfl, rfl, [], rfl, Rd.nil0, fun i x xs h => by simp at h⟩
  · have hc1 : prog.cellsOf 29 = 1 := by kernel_rfl
    rw [hc1, Nat.mul_one] at hc
    have hch : ∀ (es : List Tree) (cells : List Value), cells.length = es.length → (∀ (i : Nat) x, es[i]? = some x → Lay prog h 29 x ((cells.drop (i * 1)).take 1)) →
        ∃ ls : List (List Int), ls.length = es.length ∧ es = ls.map (fun xs => .list (xs.map .num)) ∧ (∀ (i : Nat) v xs, cells[i]? = some v → ls[i]? = some xs → RdI prog h .u8 v xs ∧ ∀ y, y ∈ xs → isB y) := by
      intro es
      induction es with
      | nil => intro cells _ _; exact ⟨[], rfl, rfl, fun i v xs _ h => by simp at h⟩
      | cons e es ih =>
        intro cells hl hall
        match cells, hl with
        | c :: cells, hl =>
          obtain ⟨ls, l1, l2, l3⟩ := ih cells (by simpa using hl) (fun i x hx => by have := hall (i + 1) x (by simpa using hx); simpa using this)
          have L0 := hall 0 e rfl
          simp only [Nat.zero_mul, List.drop_zero, List.take_succ_cons, List.take_zero] at L0
          obtain ⟨w, xs, e1, e2, R, hr, _⟩ := lay_bytes L0
          simp only [List.cons.injEq, and_true] at e1
          subst e1
          refine ⟨xs :: ls, by simp [l1], by simp [e2, ← l2], fun i v ys hv hy => ?_⟩
          cases i with
          | zero => simp at hv hy; subst hv; subst hy; exact ⟨R, hr⟩
          | succ i => exact l3 i v ys (by simpa using hv) (by simpa using hy)
    rw [hc1] at hall
    obtain ⟨ls, l1, l2, l3⟩ := hch es cells hc hall
    exact ⟨_, ls, rfl, by rw [l2], cells, by omega, ⟨by simp, .inr ⟨b, 0, 0, _, by rw [hc], hb, hk, rfl, asz29, by simp [inBlk], by simp [inBlk]⟩⟩, l3⟩
theorem tw_row {xs : List Int} : tw (.list (xs.map .num)) = xs.length + 1 := by
  have : ∀ xs : List Int, twL (xs.map Tree.num) = xs.length := by
    intro xs
    induction xs with
    | nil => rfl
    | cons x xs ih => simp only [List.map_cons, twL, tw, ih, List.length_cons]; omega
  simp [tw, this]
theorem pieces_bd {ls : List (List Int)} (h : tw (.list (ls.map fun xs => .list (xs.map .num))) ≤ 1048576) : ls.length ≤ 1048576 ∧ ∀ bs, bs ∈ ls → bs.length ≤ 1048576 := by
  simp only [tw] at h
  have h1 := twL_len (ls.map fun xs => Tree.list (xs.map .num))
  rw [List.length_map] at h1
  refine ⟨by omega, fun bs hbs => ?_⟩
  obtain ⟨i, hi⟩ := List.getElem?_of_mem hbs
  have h2 := twL_get (l := ls.map fun xs => Tree.list (xs.map .num)) (i := i) (x := .list (bs.map .num)) (by rw [List.getElem?_map, hi]; rfl)
  rw [tw_row] at h2
  omega
end Go.Proofs.YtefpalmihdbmiaaDoor.Am
end
