/- The texts of this seat, one behind another (part 10 of 10): the frame (an abstract machine), the contracts of functions, the laws. -/
import Derived.Test.YtmjdebeikcogkaaDoorZ4
import Derived.Test.YtmjdebeikcogkaaDoorZ6
import Derived.Test.YtmjdebeikcogkaaDoorZ8
import Derived.Carry
section
/- What is handed in to the statements of chapter 19, from its reading to the abstract heap. -/
set_option linter.unusedSimpArgs false
set_option linter.unusedVariables false
set_option maxRecDepth 100000
namespace Go.Proofs.YtmjdebeikcogkaaDoor.Am
open Go Go.ChangeShapes Go.WideShapes Go.ChangeAt Go.RowKit Go.Proofs.Tryd
theorem Lay.array_inv {P : Program} {h : Heap} {t e : TypeId} {n : Nat} {tr : Tree} {cs : List Value} (ht : P.underlying t = some (.array n e)) (L : Lay P h t tr cs) : ∃ ps, tr = .agg ps ∧ cs.length = P.cellsOf t ∧ ps.length = n ∧ ∀ (i : Nat) x, ps[i]? = some x → Lay P h e x ((cs.drop (i * P.cellsOf e)).take (P.cellsOf e)) := by
  cases L with
  | num h => rw [ht] at h; cases h
  | bool h => rw [ht] at h; cases h
  | str h => rw [ht] at h; cases h
  | nil h => rw [ht] at h; cases h
  | slice h => rw [ht] at h; cases h
  | struct h => rw [ht] at h; cases h
  | array h hl hn hall => rw [ht] at h; cases h; exact ⟨_, rfl, hl, hn, hall⟩
theorem lay_int1 {t : TypeId} {k : IntKind} {h : Heap} {x : Tree} {cs : List Value} (ht : prog.underlying t = some (.int k)) (L : Lay prog h t x cs) : ∃ z : Int, x = .num z ∧ cs = [.int k z] := by
  obtain ⟨z, e1, e2, _⟩ := L.int_inv ht
  exact ⟨z, e1, e2⟩
theorem fm_one {k : IntKind} {xs : List Int} : xs.flatMap (fun z => [Value.int k z]) = xs.map (Value.int k) := by
  induction xs with
  | nil => rfl
  | cons x xs ih => simp [List.flatMap_cons, ih]
theorem lay_runes {h : Heap} {x : Tree} {cs : List Value} (L : Lay prog h 43 x cs) : ∃ (w : Value) (xs : List Int), cs = [w] ∧ x = .list (xs.map .num) ∧ RdI prog h .i32 w xs ∧ (∀ j, isR (xs.getD j 0)) ∧ xs.length ≤ maxLen := by
  have hwf : ∀ {es : List Tree}, (∀ e, e ∈ es → ∃ cs', Lay prog h 21 e cs') → ∀ z, Tree.num z ∈ es → -2147483648 ≤ z ∧ z ≤ 2147483647 := fun {es} H z hz => by
    obtain ⟨cs', L'⟩ := H _ hz
    obtain ⟨y, e, _, w⟩ := L'.int_inv underlying21
    cases e
    exact (Lit.wf_int_iff .i32 z).1 w
  have L0 := L
  obtain ⟨w, xs, e1, e2, R, hm⟩ := lay_rows (c := fun z : Int => [Value.int .i32 z]) (tree := Tree.num) underlying43 (show prog.cellsOf 21 = 1 by kernel_rfl) asz21 (fun x cs => lay_int1 underlying21) L
  subst e1
  obtain ⟨es, e3, _, h4⟩ := L0.slice_inv underlying43
  rw [e2] at e3
  have e3 : xs.map Tree.num = es := by cases e3; rfl
  refine ⟨w, xs, rfl, e2, by have := R; unfold RS at this; rw [fm_one] at this; exact this, fun j => ?_, hm⟩
  cases hx : xs[j]? with
  | none => simp [List.getD, hx, isR]
  | some z =>
    have hz : Tree.num z ∈ es := by rw [← e3]; exact List.mem_map.2 ⟨z, List.mem_of_getElem? hx, rfl⟩
    have := hwf (es := es) (fun e he => by
      rcases h4 with ⟨rfl, _⟩ | ⟨b, cells, _, _, _, _, hall⟩
      · cases he
      · obtain ⟨i, hi, e⟩ := List.getElem_of_mem he
        exact ⟨_, hall i _ (by rw [← e]; exact List.getElem?_eq_getElem hi)⟩) z hz
    simpa [List.getD, hx, isR] using this
theorem lay_text {h : Heap} {x : Tree} {cs : List Value} (L : Lay prog h 22 x cs) : ∃ (w : Value) (ls : List (List Int)), cs = [w] ∧ x = .list (ls.map fun xs => .list (xs.map .num)) ∧ LT h w ls ∧ RunesOk ls := by
  obtain ⟨es, rfl, _, ⟨rfl, rfl⟩ | ⟨b, cells, rfl, hb, hk, hc, hall⟩⟩ := L.slice_inv underlying22
  · exact ⟨_, [], rfl, rfl, ⟨[], rfl, Rd.nil0, fun i x xs h => by simp at h⟩, fun i xs h => by simp at h⟩
  · have hc1 : prog.cellsOf 43 = 1 := by kernel_rfl
    rw [hc1, Nat.mul_one] at hc
    have hch : ∀ (es : List Tree) (cells : List Value), cells.length = es.length → (∀ (i : Nat) x, es[i]? = some x → Lay prog h 43 x ((cells.drop (i * 1)).take 1)) →
        ∃ ls : List (List Int), ls.length = es.length ∧ es = ls.map (fun xs => .list (xs.map .num)) ∧ (∀ (i : Nat) v xs, cells[i]? = some v → ls[i]? = some xs → RdI prog h .i32 v xs ∧ ∀ j, isR (xs.getD j 0)) := by
      intro es
      induction es with
      | nil => intro cells _ _; exact ⟨[], rfl, rfl, fun i v xs _ h => by simp at h⟩
      | cons e es ih =>
        intro cells hl hall
        match cells, hl with
        | c :: cells, hl =>
          obtain ⟨ls, l1, l2, l3⟩ := ih cells (by simpa using hl) (fun i x hx => by have := hall (i + 1) x (by simpa using hx); simpa using this)
          have L0 := hall 0 e rfl
          simp only [Nat.zero_mul, List.drop_zero, List.take_succ_cons, List.take_zero] at L0
          obtain ⟨w, xs, e1, e2, R, hr, _⟩ := lay_runes L0
          simp only [List.cons.injEq, and_true] at e1
          subst e1
          refine ⟨xs :: ls, by simp [l1], by simp [e2, ← l2], fun i v ys hv hy => ?_⟩
          cases i with
          | zero => simp at hv hy; subst hv; subst hy; exact ⟨R, hr⟩
          | succ i => exact l3 i v ys (by simpa using hv) (by simpa using hy)
    rw [hc1] at hall
    obtain ⟨ls, l1, l2, l3⟩ := hch es cells hc hall
    refine ⟨_, ls, rfl, by rw [l2], ⟨cells, by omega, ⟨by simp, .inr ⟨b, 0, 0, _, by rw [hc], hb, hk, rfl, asz43, by simp [inBlk], by simp [inBlk]⟩⟩, fun i v xs hv hx => (l3 i v xs hv hx).1⟩, fun i xs hx => ?_⟩
    have hi : i < cells.length := by have := (List.getElem?_eq_some_iff.1 hx).1; omega
    exact (l3 i _ xs (List.getElem?_eq_getElem hi) hx).2
theorem tw_runes {xs : List Int} : tw (.list (xs.map .num)) = xs.length + 1 := by
  have : ∀ xs : List Int, twL (xs.map Tree.num) = xs.length := by
    intro xs
    induction xs with
    | nil => rfl
    | cons x xs ih => simp only [List.map_cons, twL, tw, ih, List.length_cons]; omega
  simp [tw, this]
theorem tw_text {ls : List (List Int)} : tw (.list (ls.map fun xs => .list (xs.map .num))) = sumL ls + ls.length + 1 := by
  have : ∀ ls : List (List Int), twL (ls.map fun xs => Tree.list (xs.map .num)) = sumL ls + ls.length := by
    intro ls
    induction ls with
    | nil => rfl
    | cons x xs ih => simp only [List.map_cons, twL, tw_runes, ih, List.length_cons, sumL, List.sum_cons]; omega
  simp only [tw, this]
theorem lay_look {h : Heap} {x : Tree} {cs : List Value} (L : Lay prog h 25 x cs) : ∃ (fv : Value) (l : List F) (cols : Int) (tab : Int) (wrap : Bool), cs = [fv, .int .i64 cols, .int .i64 tab, .bool wrap] ∧ x = .agg [.list (l.map treeF), .num cols, .num tab, .bool wrap] ∧ FR h fv l ∧ l.length ≤ maxLen ∧ (Lit.int .i64 cols).wf = true ∧ (Lit.int .i64 tab).wf = true := by
  obtain ⟨ps, rfl, hl, hn, hall⟩ := L.struct_inv underlying25
  have hlm : cs.length = 4 := hl.trans (show prog.cellsOf 25 = 4 by kernel_rfl)
  have hnm : ps.length = 4 := hn
  obtain ⟨a0, a1, a2, a3, rfl⟩ : ∃ a0 a1 a2 a3, ps = [a0, a1, a2, a3] := by
    match ps, hnm with
    | [a0, a1, a2, a3], _ => exact ⟨a0, a1, a2, a3, rfl⟩
  obtain ⟨c0, c1, c2, c3, rfl⟩ : ∃ c0 c1 c2 c3, cs = [c0, c1, c2, c3] := by
    match cs, hlm with
    | [c0, c1, c2, c3], _ => exact ⟨c0, c1, c2, c3, rfl⟩
  obtain ⟨fv, l, e0, rfl, q0_0, q0_1⟩ := lay_folds (hall 0 _ a0 rfl rfl)
  replace e0 : ([c0, c1, c2, c3].drop 0).take (prog.cellsOf 23) = [fv] := e0
  rw [show prog.cellsOf 23 = 1 by kernel_rfl] at e0
  simp only [List.drop_zero, List.drop_succ_cons, List.take_succ_cons, List.take_zero, List.cons.injEq, and_true] at e0
  obtain ⟨cols, rfl, e1, f1⟩ := (hall 1 _ a1 rfl rfl).int_inv underlying3
  replace e1 : ([c0, c1, c2, c3].drop 1).take (prog.cellsOf 3) = [.int .i64 cols] := e1
  rw [show prog.cellsOf 3 = 1 by kernel_rfl] at e1
  simp only [List.drop_zero, List.drop_succ_cons, List.take_succ_cons, List.take_zero, List.cons.injEq, and_true] at e1
  obtain ⟨tab, rfl, e2, f2⟩ := (hall 2 _ a2 rfl rfl).int_inv underlying3
  replace e2 : ([c0, c1, c2, c3].drop 2).take (prog.cellsOf 3) = [.int .i64 tab] := e2
  rw [show prog.cellsOf 3 = 1 by kernel_rfl] at e2
  simp only [List.drop_zero, List.drop_succ_cons, List.take_succ_cons, List.take_zero, List.cons.injEq, and_true] at e2
  obtain ⟨wrap, rfl, e3⟩ := (hall 3 _ a3 rfl rfl).bool_inv underlying4
  replace e3 : ([c0, c1, c2, c3].drop 3).take (prog.cellsOf 4) = [.bool wrap] := e3
  rw [show prog.cellsOf 4 = 1 by kernel_rfl] at e3
  simp only [List.drop_zero, List.drop_succ_cons, List.take_succ_cons, List.take_zero, List.cons.injEq, and_true] at e3
  subst e0
  subst e1
  subst e2
  subst e3
  exact ⟨_, _, _, _, _, rfl, rfl, q0_0, q0_1, f1, f2⟩
theorem lay_pos {h : Heap} {x : Tree} {cs : List Value} (L : Lay prog h 32 x cs) : ∃ (pl : Int) (pc : Int), cs = [.int .i64 pl, .int .i64 pc] ∧ x = .agg [.num pl, .num pc] ∧ (Lit.int .i64 pl).wf = true ∧ (Lit.int .i64 pc).wf = true := by
  obtain ⟨ps, rfl, hl, hn, hall⟩ := L.struct_inv underlying32
  have hlm : cs.length = 2 := hl.trans (show prog.cellsOf 32 = 2 by kernel_rfl)
  have hnm : ps.length = 2 := hn
  obtain ⟨a0, a1, rfl⟩ : ∃ a0 a1, ps = [a0, a1] := by
    match ps, hnm with
    | [a0, a1], _ => exact ⟨a0, a1, rfl⟩
  obtain ⟨c0, c1, rfl⟩ : ∃ c0 c1, cs = [c0, c1] := by
    match cs, hlm with
    | [c0, c1], _ => exact ⟨c0, c1, rfl⟩
  obtain ⟨pl, rfl, e0, f0⟩ := (hall 0 _ a0 rfl rfl).int_inv underlying3
  replace e0 : ([c0, c1].drop 0).take (prog.cellsOf 3) = [.int .i64 pl] := e0
  rw [show prog.cellsOf 3 = 1 by kernel_rfl] at e0
  simp only [List.drop_zero, List.drop_succ_cons, List.take_succ_cons, List.take_zero, List.cons.injEq, and_true] at e0
  obtain ⟨pc, rfl, e1, f1⟩ := (hall 1 _ a1 rfl rfl).int_inv underlying3
  replace e1 : ([c0, c1].drop 1).take (prog.cellsOf 3) = [.int .i64 pc] := e1
  rw [show prog.cellsOf 3 = 1 by kernel_rfl] at e1
  simp only [List.drop_zero, List.drop_succ_cons, List.take_succ_cons, List.take_zero, List.cons.injEq, and_true] at e1
  subst e0
  subst e1
  exact ⟨_, _, rfl, rfl, f0, f1⟩
theorem lay_row {h : Heap} {x : Tree} {cs : List Value} (L : Lay prog h 37 x cs) : ∃ (a : Int) (b : Int) (c : Int) (d : Bool), cs = [.int .i64 a, .int .i64 b, .int .i64 c, .bool d] ∧ x = .agg [.num a, .num b, .num c, .bool d] ∧ (Lit.int .i64 a).wf = true ∧ (Lit.int .i64 b).wf = true ∧ (Lit.int .i64 c).wf = true := by
  obtain ⟨ps, rfl, hl, hn, hall⟩ := L.struct_inv underlying37
  have hlm : cs.length = 4 := hl.trans (show prog.cellsOf 37 = 4 by kernel_rfl)
  have hnm : ps.length = 4 := hn
  obtain ⟨a0, a1, a2, a3, rfl⟩ : ∃ a0 a1 a2 a3, ps = [a0, a1, a2, a3] := by
    match ps, hnm with
    | [a0, a1, a2, a3], _ => exact ⟨a0, a1, a2, a3, rfl⟩
  obtain ⟨c0, c1, c2, c3, rfl⟩ : ∃ c0 c1 c2 c3, cs = [c0, c1, c2, c3] := by
    match cs, hlm with
    | [c0, c1, c2, c3], _ => exact ⟨c0, c1, c2, c3, rfl⟩
  obtain ⟨a, rfl, e0, f0⟩ := (hall 0 _ a0 rfl rfl).int_inv underlying3
  replace e0 : ([c0, c1, c2, c3].drop 0).take (prog.cellsOf 3) = [.int .i64 a] := e0
  rw [show prog.cellsOf 3 = 1 by kernel_rfl] at e0
  simp only [List.drop_zero, List.drop_succ_cons, List.take_succ_cons, List.take_zero, List.cons.injEq, and_true] at e0
  obtain ⟨b, rfl, e1, f1⟩ := (hall 1 _ a1 rfl rfl).int_inv underlying3
  replace e1 : ([c0, c1, c2, c3].drop 1).take (prog.cellsOf 3) = [.int .i64 b] := e1
  rw [show prog.cellsOf 3 = 1 by kernel_rfl] at e1
  simp only [List.drop_zero, List.drop_succ_cons, List.take_succ_cons, List.take_zero, List.cons.injEq, and_true] at e1
  obtain ⟨c, rfl, e2, f2⟩ := (hall 2 _ a2 rfl rfl).int_inv underlying3
  replace e2 : ([c0, c1, c2, c3].drop 2).take (prog.cellsOf 3) = [.int .i64 c] := e2
  rw [show prog.cellsOf 3 = 1 by kernel_rfl] at e2
  simp only [List.drop_zero, List.drop_succ_cons, List.take_succ_cons, List.take_zero, List.cons.injEq, and_true] at e2
  obtain ⟨d, rfl, e3⟩ := (hall 3 _ a3 rfl rfl).bool_inv underlying4
  replace e3 : ([c0, c1, c2, c3].drop 3).take (prog.cellsOf 4) = [.bool d] := e3
  rw [show prog.cellsOf 4 = 1 by kernel_rfl] at e3
  simp only [List.drop_zero, List.drop_succ_cons, List.take_succ_cons, List.take_zero, List.cons.injEq, and_true] at e3
  subst e0
  subst e1
  subst e2
  subst e3
  exact ⟨_, _, _, _, rfl, rfl, f0, f1, f2⟩
def treeR (x : Rw) : Tree := .agg [.num x.ln, .num x.fr, .num x.to, .bool x.fo]
theorem lay_rowsR {h : Heap} {x : Tree} {cs : List Value} (L : Lay prog h 28 x cs) : ∃ (w : Value) (l : List Rw), cs = [w] ∧ x = .list (l.map treeR) ∧ RR h w l ∧ l.length ≤ maxLen :=
  lay_rows underlying28 (show prog.cellsOf 37 = 4 by kernel_rfl) asz37 (fun x cs L => by obtain ⟨a, b, c, d, e1, e2, _⟩ := lay_row L; exact ⟨⟨a, b, c, d⟩, e2, e1⟩) L
theorem lay_pane {h : Heap} {x : Tree} {cs : List Value} (L : Lay prog h 47 x cs) : ∃ (p0 : Int) (p1 : Int) (p2 : Int) (p3 : Int) (p4 : Int), cs = [.int .i64 p0, .int .i64 p1, .int .i64 p2, .int .i64 p3, .int .i64 p4] ∧ x = .agg [.num p0, .num p1, .num p2, .num p3, .num p4] ∧ (Lit.int .i64 p0).wf = true ∧ (Lit.int .i64 p1).wf = true ∧ (Lit.int .i64 p2).wf = true ∧ (Lit.int .i64 p3).wf = true ∧ (Lit.int .i64 p4).wf = true := by
  obtain ⟨ps, rfl, hl, hn, hall⟩ := L.struct_inv underlying47
  have hlm : cs.length = 5 := hl.trans (show prog.cellsOf 47 = 5 by kernel_rfl)
  have hnm : ps.length = 5 := hn
  obtain ⟨a0, a1, a2, a3, a4, rfl⟩ : ∃ a0 a1 a2 a3 a4, ps = [a0, a1, a2, a3, a4] := by
    match ps, hnm with
    | [a0, a1, a2, a3, a4], _ => exact ⟨a0, a1, a2, a3, a4, rfl⟩
  obtain ⟨c0, c1, c2, c3, c4, rfl⟩ : ∃ c0 c1 c2 c3 c4, cs = [c0, c1, c2, c3, c4] := by
    match cs, hlm with
    | [c0, c1, c2, c3, c4], _ => exact ⟨c0, c1, c2, c3, c4, rfl⟩
  obtain ⟨p0, rfl, e0, f0⟩ := (hall 0 _ a0 rfl rfl).int_inv underlying3
  replace e0 : ([c0, c1, c2, c3, c4].drop 0).take (prog.cellsOf 3) = [.int .i64 p0] := e0
  rw [show prog.cellsOf 3 = 1 by kernel_rfl] at e0
  simp only [List.drop_zero, List.drop_succ_cons, List.take_succ_cons, List.take_zero, List.cons.injEq, and_true] at e0
  obtain ⟨p1, rfl, e1, f1⟩ := (hall 1 _ a1 rfl rfl).int_inv underlying3
  replace e1 : ([c0, c1, c2, c3, c4].drop 1).take (prog.cellsOf 3) = [.int .i64 p1] := e1
  rw [show prog.cellsOf 3 = 1 by kernel_rfl] at e1
  simp only [List.drop_zero, List.drop_succ_cons, List.take_succ_cons, List.take_zero, List.cons.injEq, and_true] at e1
  obtain ⟨p2, rfl, e2, f2⟩ := (hall 2 _ a2 rfl rfl).int_inv underlying3
  replace e2 : ([c0, c1, c2, c3, c4].drop 2).take (prog.cellsOf 3) = [.int .i64 p2] := e2
  rw [show prog.cellsOf 3 = 1 by kernel_rfl] at e2
  simp only [List.drop_zero, List.drop_succ_cons, List.take_succ_cons, List.take_zero, List.cons.injEq, and_true] at e2
  obtain ⟨p3, rfl, e3, f3⟩ := (hall 3 _ a3 rfl rfl).int_inv underlying3
  replace e3 : ([c0, c1, c2, c3, c4].drop 3).take (prog.cellsOf 3) = [.int .i64 p3] := e3
  rw [show prog.cellsOf 3 = 1 by kernel_rfl] at e3
  simp only [List.drop_zero, List.drop_succ_cons, List.take_succ_cons, List.take_zero, List.cons.injEq, and_true] at e3
  obtain ⟨p4, rfl, e4, f4⟩ := (hall 4 _ a4 rfl rfl).int_inv underlying3
  replace e4 : ([c0, c1, c2, c3, c4].drop 4).take (prog.cellsOf 3) = [.int .i64 p4] := e4
  rw [show prog.cellsOf 3 = 1 by kernel_rfl] at e4
  simp only [List.drop_zero, List.drop_succ_cons, List.take_succ_cons, List.take_zero, List.cons.injEq, and_true] at e4
  subst e0
  subst e1
  subst e2
  subst e3
  subst e4
  exact ⟨_, _, _, _, _, rfl, rfl, f0, f1, f2, f3, f4⟩
theorem lay_four {h : Heap} {x : Tree} {cs : List Value} (L : Lay prog h 50 x cs) : ∃ (a b c d : Int), cs = [.int .i64 a, .int .i64 b, .int .i64 c, .int .i64 d] ∧ (a ≤ 9223372036854775807 ∧ b ≤ 9223372036854775807 ∧ c ≤ 9223372036854775807 ∧ d ≤ 9223372036854775807) := by
  obtain ⟨ps, rfl, hl, hn, hall⟩ := L.array_inv underlying50
  have hlm : cs.length = 4 := hl.trans (show prog.cellsOf 50 = 4 by kernel_rfl)
  obtain ⟨a0, a1, a2, a3, rfl⟩ : ∃ a b c d, ps = [a, b, c, d] := by
    match ps, hn with
    | [a, b, c, d], _ => exact ⟨a, b, c, d, rfl⟩
  obtain ⟨c0, c1, c2, c3, rfl⟩ : ∃ a b c d, cs = [a, b, c, d] := by
    match cs, hlm with
    | [a, b, c, d], _ => exact ⟨a, b, c, d, rfl⟩
  have hc1 : prog.cellsOf 3 = 1 := by kernel_rfl
  rw [hc1] at hall
  obtain ⟨x0, _, e0, f0⟩ := (hall 0 a0 rfl).int_inv underlying3
  obtain ⟨x1, _, e1, f1⟩ := (hall 1 a1 rfl).int_inv underlying3
  obtain ⟨x2, _, e2, f2⟩ := (hall 2 a2 rfl).int_inv underlying3
  obtain ⟨x3, _, e3, f3⟩ := (hall 3 a3 rfl).int_inv underlying3
  simp only [Nat.zero_mul, Nat.one_mul, Nat.reduceMul, List.drop_zero, List.drop_succ_cons, List.take_succ_cons, List.take_zero, List.cons.injEq, and_true] at e0 e1 e2 e3
  subst e0; subst e1; subst e2; subst e3
  exact ⟨x0, x1, x2, x3, rfl, ((Lit.wf_int_iff .i64 _).1 f0).2, ((Lit.wf_int_iff .i64 _).1 f1).2, ((Lit.wf_int_iff .i64 _).1 f2).2, ((Lit.wf_int_iff .i64 _).1 f3).2⟩
end Go.Proofs.YtmjdebeikcogkaaDoor.Am
end
