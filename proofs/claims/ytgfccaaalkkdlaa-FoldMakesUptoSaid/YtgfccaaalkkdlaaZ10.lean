/- The texts of this seat, one behind another (part 10 of 10): the frame (an abstract machine), the contracts of functions, the laws. -/
import Derived.Test.YtgfccaaalkkdlaaZ9
import Derived.Test.YtgfccaaalkkdlaaZ8
import Derived.Test.YtgfccaaalkkdlaaZ5
section
/- Two numbers, deeds with folds that are handed in, from their reading to the abstract heap. -/
set_option linter.unusedSimpArgs false
set_option linter.unusedVariables false
set_option maxRecDepth 100000
namespace Go.Proofs.Ytgfccaaalkkdlaa.Am
open Go Go.ChangeShapes Go.WideShapes Go.ChangeAt Go.RowKit Go.Proofs.Try
theorem Lay.array_inv {P : Program} {h : Heap} {t e : TypeId} {n : Nat} {tr : Tree} {cs : List Value} (ht : P.underlying t = some (.array n e)) (L : Lay P h t tr cs) : ∃ ps, tr = .agg ps ∧ cs.length = P.cellsOf t ∧ ps.length = n ∧ ∀ (i : Nat) x, ps[i]? = some x → Lay P h e x ((cs.drop (i * P.cellsOf e)).take (P.cellsOf e)) := by
  cases L with
  | num ht' hw => rw [ht] at ht'; cases ht'
  | bool ht' => rw [ht] at ht'; cases ht'
  | str ht' _ => rw [ht] at ht'; cases ht'
  | nil ht' => rw [ht] at ht'; cases ht'
  | slice ht' _ _ _ _ _ => rw [ht] at ht'; cases ht'
  | struct ht' _ _ _ => rw [ht] at ht'; cases ht'
  | array ht' hl hn hall => rw [ht] at ht'; cases ht'; exact ⟨_, rfl, hl, hn, hall⟩
theorem lay_two {h : Heap} {x : Tree} {cs : List Value} (L : Lay prog h 37 x cs) : ∃ a b : Int, cs = [.int .i64 a, .int .i64 b] := by
  obtain ⟨ps, rfl, hl, hn, hall⟩ := L.array_inv underlying37
  have hl2 : cs.length = 2 := hl.trans (show prog.cellsOf 37 = 2 by kernel_rfl)
  have c3 : prog.cellsOf 3 = 1 := by kernel_rfl
  obtain ⟨a, b, rfl⟩ : ∃ a b, ps = [a, b] := by
    match ps, hn with
    | [a, b], _ => exact ⟨a, b, rfl⟩
  obtain ⟨u, v, rfl⟩ : ∃ u v, cs = [u, v] := by
    match cs, hl2 with
    | [u, v], _ => exact ⟨u, v, rfl⟩
  rw [c3] at hall
  obtain ⟨x, rfl, e0, _⟩ := (hall 0 a rfl).int_inv underlying3
  obtain ⟨y, rfl, e1, _⟩ := (hall 1 b rfl).int_inv underlying3
  simp only [Nat.zero_mul, Nat.one_mul, List.drop_zero, List.drop_succ_cons, List.take_succ_cons, List.take_zero, List.cons.injEq, and_true] at e0 e1
  subst e0; subst e1
  exact ⟨x, y, rfl⟩
def treeDe (d : DeF) : Tree := .agg [.num d.k, .num d.a, .num d.b, .bool d.cl, .agg [.num d.c, .list d.os, .list d.ns]]
theorem lay_deed {h : Heap} {x : Tree} {cs : List Value} (L : Lay prog h 46 x cs) : ∃ d, x = treeDe d ∧ cs = cDe d := by
  obtain ⟨ps, rfl, hl, hn, hall⟩ := L.struct_inv underlying46
  have hl7 : cs.length = 7 := hl.trans (show prog.cellsOf 46 = 7 by kernel_rfl)
  have hn5 : ps.length = 5 := hn
  obtain ⟨a, b, c, d, e, rfl⟩ : ∃ a b c d e, ps = [a, b, c, d, e] := by
    match ps, hn5 with
    | [a, b, c, d, e], _ => exact ⟨a, b, c, d, e, rfl⟩
  obtain ⟨u0, u1, u2, u3, u4, u5, u6, rfl⟩ : ∃ u0 u1 u2 u3 u4 u5 u6, cs = [u0, u1, u2, u3, u4, u5, u6] := by
    match cs, hl7 with
    | [u0, u1, u2, u3, u4, u5, u6], _ => exact ⟨u0, u1, u2, u3, u4, u5, u6, rfl⟩
  have c3 : prog.cellsOf 3 = 1 := by kernel_rfl
  have c4 : prog.cellsOf 4 = 1 := by kernel_rfl
  have c5 : prog.cellsOf 31 = 3 := by kernel_rfl
  obtain ⟨x0, rfl, e0, _⟩ := (hall 0 _ a rfl rfl).int_inv underlying3
  obtain ⟨x1, rfl, e1, _⟩ := (hall 1 _ b rfl rfl).int_inv underlying3
  obtain ⟨x2, rfl, e2, _⟩ := (hall 2 _ c rfl rfl).int_inv underlying3
  obtain ⟨x3, rfl, e3⟩ := (hall 3 _ d rfl rfl).bool_inv underlying4
  obtain ⟨x4, ov, nv, os, ns, e4, rfl, lo, ln, oo, on⟩ := lay_change (hall 4 _ e rfl rfl)
  replace e0 : ([u0, u1, u2, u3, u4, u5, u6].drop 0).take (prog.cellsOf 3) = [.int .i64 x0] := e0
  replace e1 : ([u0, u1, u2, u3, u4, u5, u6].drop 1).take (prog.cellsOf 3) = [.int .i64 x1] := e1
  replace e2 : ([u0, u1, u2, u3, u4, u5, u6].drop 2).take (prog.cellsOf 3) = [.int .i64 x2] := e2
  replace e3 : ([u0, u1, u2, u3, u4, u5, u6].drop 3).take (prog.cellsOf 4) = [.bool x3] := e3
  replace e4 : ([u0, u1, u2, u3, u4, u5, u6].drop 4).take (prog.cellsOf 31) = [.int .i64 x4, ov, nv] := e4
  rw [c3] at e0 e1 e2
  rw [c4] at e3
  rw [c5] at e4
  simp only [List.drop_zero, List.drop_succ_cons, List.take_succ_cons, List.take_zero, List.cons.injEq, and_true] at e0 e1 e2 e3 e4
  obtain ⟨rfl, rfl, rfl⟩ := e4
  subst e0; subst e1; subst e2; subst e3
  exact ⟨⟨x0, x1, x2, x3, x4, _, _, os, ns, lo, ln, oo, on⟩, rfl, rfl⟩
theorem lay_deeds {h : Heap} {x : Tree} {cs : List Value} (L : Lay prog h 44 x cs) : ∃ (w : Value) (l : List DeF), cs = [w] ∧ x = .list (l.map treeDe) ∧ RS prog h 7 cDe w l ∧ l.length ≤ maxLen :=
  lay_rows underlying44 (show prog.cellsOf 46 = 7 by kernel_rfl) asz46 (fun x cs => lay_deed) L
theorem deeds_small {l : List DeF} (h : tw (.list (l.map treeDe)) ≤ 1048576) : ∀ d, d ∈ l → d.os.length ≤ 1000000000 := fun d hd => by
  obtain ⟨i, hi⟩ := List.mem_iff_getElem?.1 hd
  have h1 := twL_get (l := l.map treeDe) (i := i) (x := treeDe d) (by rw [List.getElem?_map, hi]; rfl)
  have h2 := twL_len d.os
  simp only [tw] at h
  simp only [treeDe, tw, twL] at h1
  omega
end Go.Proofs.Ytgfccaaalkkdlaa.Am
end
