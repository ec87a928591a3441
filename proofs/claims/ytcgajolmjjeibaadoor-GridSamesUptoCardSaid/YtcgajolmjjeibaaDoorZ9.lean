/- The texts of this seat, one behind another (part 9 of 11): the frame (an abstract machine), the contracts of functions, the laws. -/
import Derived.Test.YtcgajolmjjeibaaDoorZ8
import Derived.Test.YtcgajolmjjeibaaDoorZ4
section
/- What is handed in to GridSames: scenes, from their reading to the abstract heap. -/
set_option linter.unusedSimpArgs false
set_option linter.unusedVariables false
set_option maxRecDepth 100000
namespace Go.Proofs.YtcgajolmjjeibaaDoor.Am
open Go Go.ChangeShapes Go.WideShapes Go.ChangeAt Go.RowKit Go.Proofs.Tryd
def RunesOk (ls : List (List Int)) : Prop := ∀ (i : Nat) xs, ls[i]? = some xs → ∀ j, isR (xs.getD j 0)
theorem lay_runes {h : Heap} {x : Tree} {cs : List Value} (L : Lay prog h 23 x cs) : ∃ (w : Value) (xs : List Int), cs = [w] ∧ x = .list (xs.map .num) ∧ RdI prog h .i32 w xs ∧ (∀ j, isR (xs.getD j 0)) := by
  obtain ⟨w, xs, e1, e2, R, hr, _⟩ := lay_i32 L
  exact ⟨w, xs, e1, e2, R, isR_getD hr⟩
theorem lay_text {h : Heap} {x : Tree} {cs : List Value} (L : Lay prog h 35 x cs) : ∃ (w : Value) (ls : List (List Int)), cs = [w] ∧ x = .list (ls.map fun xs => .list (xs.map .num)) ∧ LT h w ls ∧ RunesOk ls := by
  obtain ⟨es, rfl, _, ⟨rfl, rfl⟩ | ⟨b, cells, rfl, hb, hk, hc, hall⟩⟩ := L.slice_inv underlying35
  · exact ⟨_, [], rfl, rfl, ⟨[], rfl, Rd.nil0, fun i x xs h => by simp at h⟩, fun i xs h => by simp at h⟩
  · have hc1 : prog.cellsOf 23 = 1 := by kernel_rfl
    rw [hc1, Nat.mul_one] at hc
    have hch : ∀ (es : List Tree) (cells : List Value), cells.length = es.length → (∀ (i : Nat) x, es[i]? = some x → Lay prog h 23 x ((cells.drop (i * 1)).take 1)) →
        ∃ ls : List (List Int), ls.length = es.length ∧ es = ls.map (fun xs => .list (xs.map .num)) ∧ (∀ (i : Nat) v xs, cells[i]? = some v → ls[i]? = some xs → RdI prog h .i32 v xs ∧ ∀ j, isR (xs.getD j 0)) := by
      intro es
      induction es with
      | nil => intro cells _ _; exact ⟨[], rfl, rfl, fun i v xs _ h => by simp at h⟩
      | cons e es ih =>
        intro cells hl hall
        match cells, hl with
        | c :: cells, hl =>
          obtain ⟨ls, l1, l2, l3⟩ := ih cells (by simpa using hl) (fun i x hx => by have := hall (i + 1) x (by simpa using hx); simpa using this)
          have L0 := hall 0 e rfl
          simp only [Nat.zero_mul, List.drop_zero, List.take_succ_cons, List.take_zero] at L0
          obtain ⟨w, xs, e1, e2, R, hr⟩ := lay_runes L0
          simp only [List.cons.injEq, and_true] at e1
          subst e1
          refine ⟨xs :: ls, by simp [l1], by simp [e2, ← l2], fun i v ys hv hy => ?_⟩
          cases i with
          | zero => simp at hv hy; subst hv; subst hy; exact ⟨R, hr⟩
          | succ i => exact l3 i v ys (by simpa using hv) (by simpa using hy)
    rw [hc1] at hall
    obtain ⟨ls, l1, l2, l3⟩ := hch es cells hc hall
    refine ⟨_, ls, rfl, by rw [l2], ⟨cells, by omega, ⟨by simp, .inr ⟨b, 0, 0, _, by rw [hc], hb, hk, rfl, asz23, by simp [inBlk], by simp [inBlk]⟩⟩, fun i v xs hv hx => (l3 i v xs hv hx).1⟩, fun i xs hx => ?_⟩
    have hi : i < cells.length := by have := (List.getElem?_eq_some_iff.1 hx).1; omega
    exact (l3 i _ xs (List.getElem?_eq_getElem hi) hx).2
theorem tw_runes {xs : List Int} : tw (.list (xs.map .num)) = xs.length + 1 := by
  have : ∀ xs : List Int, twL (xs.map Tree.num) = xs.length := by
    intro xs
    induction xs with
    | nil => rfl
    | cons x xs ih => simp only [List.map_cons, twL, tw, ih, List.length_cons]; omega
  simp [tw, this]
theorem tw_text {ls : List (List Int)} : tw (.list (ls.map fun xs => .list (xs.map .num))) = sumL ls + ls.length + 1 := by
  have : ∀ ls : List (List Int), twL (ls.map fun xs => Tree.list (xs.map .num)) = sumL ls + ls.length := by
    intro ls
    induction ls with
    | nil => rfl
    | cons x xs ih => simp only [List.map_cons, twL, tw_runes, ih, List.length_cons, sumL, List.sum_cons]; omega
  simp only [tw, this]
theorem lay_row {h : Heap} {x : Tree} {cs : List Value} (L : Lay prog h 50 x cs) : ∃ (a : Int) (b : Int) (c : Int) (d : Bool), cs = [.int .i64 a, .int .i64 b, .int .i64 c, .bool d] ∧ x = .agg [.num a, .num b, .num c, .bool d] ∧ (Lit.int .i64 a).wf = true ∧ (Lit.int .i64 b).wf = true ∧ (Lit.int .i64 c).wf = true := by
  obtain ⟨ps, rfl, hl, hn, hall⟩ := L.struct_inv underlying50
  have hlm : cs.length = 4 := hl.trans (show prog.cellsOf 50 = 4 by kernel_rfl)
  have hnm : ps.length = 4 := hn
  obtain ⟨a0, a1, a2, a3, rfl⟩ : ∃ a0 a1 a2 a3, ps = [a0, a1, a2, a3] := by
    match ps, hnm with
    | [a0, a1, a2, a3], _ => exact ⟨a0, a1, a2, a3, rfl⟩
  obtain ⟨c0, c1, c2, c3, rfl⟩ : ∃ c0 c1 c2 c3, cs = [c0, c1, c2, c3] := by
    match cs, hlm with
    | [c0, c1, c2, c3], _ => exact ⟨c0, c1, c2, c3, rfl⟩
  obtain ⟨a, rfl, e0, f0⟩ := (hall 0 _ a0 rfl rfl).int_inv underlying3
  replace e0 : ([c0, c1, c2, c3].drop 0).take (prog.cellsOf 3) = [.int .i64 a] := e0
  rw [show prog.cellsOf 3 = 1 by kernel_rfl] at e0
  simp only [List.drop_zero, List.drop_succ_cons, List.take_succ_cons, List.take_zero, List.cons.injEq, and_true] at e0
  obtain ⟨b, rfl, e1, f1⟩ := (hall 1 _ a1 rfl rfl).int_inv underlying3
  replace e1 : ([c0, c1, c2, c3].drop 1).take (prog.cellsOf 3) = [.int .i64 b] := e1
  rw [show prog.cellsOf 3 = 1 by kernel_rfl] at e1
  simp only [List.drop_zero, List.drop_succ_cons, List.take_succ_cons, List.take_zero, List.cons.injEq, and_true] at e1
  obtain ⟨c, rfl, e2, f2⟩ := (hall 2 _ a2 rfl rfl).int_inv underlying3
  replace e2 : ([c0, c1, c2, c3].drop 2).take (prog.cellsOf 3) = [.int .i64 c] := e2
  rw [show prog.cellsOf 3 = 1 by kernel_rfl] at e2
  simp only [List.drop_zero, List.drop_succ_cons, List.take_succ_cons, List.take_zero, List.cons.injEq, and_true] at e2
  obtain ⟨d, rfl, e3⟩ := (hall 3 _ a3 rfl rfl).bool_inv underlying4
  replace e3 : ([c0, c1, c2, c3].drop 3).take (prog.cellsOf 4) = [.bool d] := e3
  rw [show prog.cellsOf 4 = 1 by kernel_rfl] at e3
  simp only [List.drop_zero, List.drop_succ_cons, List.take_succ_cons, List.take_zero, List.cons.injEq, and_true] at e3
  subst e0
  subst e1
  subst e2
  subst e3
  exact ⟨_, _, _, _, rfl, rfl, f0, f1, f2⟩
def treeR (x : Rw) : Tree := .agg [.num x.ln, .num x.fr, .num x.to, .bool x.fo]
theorem lay_rowsR {h : Heap} {x : Tree} {cs : List Value} (L : Lay prog h 51 x cs) : ∃ (w : Value) (l : List Rw), cs = [w] ∧ x = .list (l.map treeR) ∧ RR h w l ∧ l.length ≤ maxLen :=
  lay_rows underlying51 (show prog.cellsOf 50 = 4 by kernel_rfl) asz50 (fun x cs L => by obtain ⟨a, b, c, d, e1, e2, _⟩ := lay_row L; exact ⟨⟨a, b, c, d⟩, e2, e1⟩) L
theorem lay_win {h : Heap} {x : Tree} {cs : List Value} (L : Lay prog h 47 x cs) : ∃ (wi : Int) (wt' : Int) (wl' : Int) (wr : Int) (wc : Int), cs = [.int .i64 wi, .int .i64 wt', .int .i64 wl', .int .i64 wr, .int .i64 wc] ∧ x = .agg [.num wi, .num wt', .num wl', .num wr, .num wc] ∧ (Lit.int .i64 wi).wf = true ∧ (Lit.int .i64 wt').wf = true ∧ (Lit.int .i64 wl').wf = true ∧ (Lit.int .i64 wr).wf = true ∧ (Lit.int .i64 wc).wf = true := by
  obtain ⟨ps, rfl, hl, hn, hall⟩ := L.struct_inv underlying47
  have hlm : cs.length = 5 := hl.trans (show prog.cellsOf 47 = 5 by kernel_rfl)
  have hnm : ps.length = 5 := hn
  obtain ⟨a0, a1, a2, a3, a4, rfl⟩ : ∃ a0 a1 a2 a3 a4, ps = [a0, a1, a2, a3, a4] := by
    match ps, hnm with
    | [a0, a1, a2, a3, a4], _ => exact ⟨a0, a1, a2, a3, a4, rfl⟩
  obtain ⟨c0, c1, c2, c3, c4, rfl⟩ : ∃ c0 c1 c2 c3 c4, cs = [c0, c1, c2, c3, c4] := by
    match cs, hlm with
    | [c0, c1, c2, c3, c4], _ => exact ⟨c0, c1, c2, c3, c4, rfl⟩
  obtain ⟨wi, rfl, e0, f0⟩ := (hall 0 _ a0 rfl rfl).int_inv underlying3
  replace e0 : ([c0, c1, c2, c3, c4].drop 0).take (prog.cellsOf 3) = [.int .i64 wi] := e0
  rw [show prog.cellsOf 3 = 1 by kernel_rfl] at e0
  simp only [List.drop_zero, List.drop_succ_cons, List.take_succ_cons, List.take_zero, List.cons.injEq, and_true] at e0
  obtain ⟨wt', rfl, e1, f1⟩ := (hall 1 _ a1 rfl rfl).int_inv underlying3
  replace e1 : ([c0, c1, c2, c3, c4].drop 1).take (prog.cellsOf 3) = [.int .i64 wt'] := e1
  rw [show prog.cellsOf 3 = 1 by kernel_rfl] at e1
  simp only [List.drop_zero, List.drop_succ_cons, List.take_succ_cons, List.take_zero, List.cons.injEq, and_true] at e1
  obtain ⟨wl', rfl, e2, f2⟩ := (hall 2 _ a2 rfl rfl).int_inv underlying3
  replace e2 : ([c0, c1, c2, c3, c4].drop 2).take (prog.cellsOf 3) = [.int .i64 wl'] := e2
  rw [show prog.cellsOf 3 = 1 by kernel_rfl] at e2
  simp only [List.drop_zero, List.drop_succ_cons, List.take_succ_cons, List.take_zero, List.cons.injEq, and_true] at e2
  obtain ⟨wr, rfl, e3, f3⟩ := (hall 3 _ a3 rfl rfl).int_inv underlying3
  replace e3 : ([c0, c1, c2, c3, c4].drop 3).take (prog.cellsOf 3) = [.int .i64 wr] := e3
  rw [show prog.cellsOf 3 = 1 by kernel_rfl] at e3
  simp only [List.drop_zero, List.drop_succ_cons, List.take_succ_cons, List.take_zero, List.cons.injEq, and_true] at e3
  obtain ⟨wc, rfl, e4, f4⟩ := (hall 4 _ a4 rfl rfl).int_inv underlying3
  replace e4 : ([c0, c1, c2, c3, c4].drop 4).take (prog.cellsOf 3) = [.int .i64 wc] := e4
  rw [show prog.cellsOf 3 = 1 by kernel_rfl] at e4
  simp only [List.drop_zero, List.drop_succ_cons, List.take_succ_cons, List.take_zero, List.cons.injEq, and_true] at e4
  subst e0
  subst e1
  subst e2
  subst e3
  subst e4
  exact ⟨_, _, _, _, _, rfl, rfl, f0, f1, f2, f3, f4⟩
theorem lay_pos {h : Heap} {x : Tree} {cs : List Value} (L : Lay prog h 53 x cs) : ∃ (pl : Int) (pc : Int), cs = [.int .i64 pl, .int .i64 pc] ∧ x = .agg [.num pl, .num pc] ∧ (Lit.int .i64 pl).wf = true ∧ (Lit.int .i64 pc).wf = true := by
  obtain ⟨ps, rfl, hl, hn, hall⟩ := L.struct_inv underlying53
  have hlm : cs.length = 2 := hl.trans (show prog.cellsOf 53 = 2 by kernel_rfl)
  have hnm : ps.length = 2 := hn
  obtain ⟨a0, a1, rfl⟩ : ∃ a0 a1, ps = [a0, a1] := by
    match ps, hnm with
    | [a0, a1], _ => exact ⟨a0, a1, rfl⟩
  obtain ⟨c0, c1, rfl⟩ : ∃ c0 c1, cs = [c0, c1] := by
    match cs, hlm with
    | [c0, c1], _ => exact ⟨c0, c1, rfl⟩
  obtain ⟨pl, rfl, e0, f0⟩ := (hall 0 _ a0 rfl rfl).int_inv underlying3
  replace e0 : ([c0, c1].drop 0).take (prog.cellsOf 3) = [.int .i64 pl] := e0
  rw [show prog.cellsOf 3 = 1 by kernel_rfl] at e0
  simp only [List.drop_zero, List.drop_succ_cons, List.take_succ_cons, List.take_zero, List.cons.injEq, and_true] at e0
  obtain ⟨pc, rfl, e1, f1⟩ := (hall 1 _ a1 rfl rfl).int_inv underlying3
  replace e1 : ([c0, c1].drop 1).take (prog.cellsOf 3) = [.int .i64 pc] := e1
  rw [show prog.cellsOf 3 = 1 by kernel_rfl] at e1
  simp only [List.drop_zero, List.drop_succ_cons, List.take_succ_cons, List.take_zero, List.cons.injEq, and_true] at e1
  subst e0
  subst e1
  exact ⟨_, _, rfl, rfl, f0, f1⟩
theorem lay_region {h : Heap} {x : Tree} {cs : List Value} (L : Lay prog h 55 x cs) : ∃ (ra : Int) (rb : Int) (rc : Int) (rd : Int) (re : Int), cs = [.int .i64 ra, .int .i64 rb, .int .i64 rc, .int .i64 rd, .int .i64 re] ∧ x = .agg [.agg [.num ra, .num rb], .agg [.num rc, .num rd], .num re] ∧ (Lit.int .i64 ra).wf = true ∧ (Lit.int .i64 rb).wf = true ∧ (Lit.int .i64 rc).wf = true ∧ (Lit.int .i64 rd).wf = true ∧ (Lit.int .i64 re).wf = true := by
  obtain ⟨ps, rfl, hl, hn, hall⟩ := L.struct_inv underlying55
  have hlm : cs.length = 5 := hl.trans (show prog.cellsOf 55 = 5 by kernel_rfl)
  have hnm : ps.length = 3 := hn
  obtain ⟨a0, a1, a2, rfl⟩ : ∃ a0 a1 a2, ps = [a0, a1, a2] := by
    match ps, hnm with
    | [a0, a1, a2], _ => exact ⟨a0, a1, a2, rfl⟩
  obtain ⟨c0, c1, c2, c3, c4, rfl⟩ : ∃ c0 c1 c2 c3 c4, cs = [c0, c1, c2, c3, c4] := by
    match cs, hlm with
    | [c0, c1, c2, c3, c4], _ => exact ⟨c0, c1, c2, c3, c4, rfl⟩
  obtain ⟨ra, rb, e0, rfl, q0_0, q0_1⟩ := lay_pos (hall 0 _ a0 rfl rfl)
  replace e0 : ([c0, c1, c2, c3, c4].drop 0).take (prog.cellsOf 53) = [.int .i64 ra, .int .i64 rb] := e0
  rw [show prog.cellsOf 53 = 2 by kernel_rfl] at e0
  simp only [List.drop_zero, List.drop_succ_cons, List.take_succ_cons, List.take_zero, List.cons.injEq, and_true] at e0
  obtain ⟨rc, rd, e1, rfl, q1_0, q1_1⟩ := lay_pos (hall 1 _ a1 rfl rfl)
  replace e1 : ([c0, c1, c2, c3, c4].drop 2).take (prog.cellsOf 53) = [.int .i64 rc, .int .i64 rd] := e1
  rw [show prog.cellsOf 53 = 2 by kernel_rfl] at e1
  simp only [List.drop_zero, List.drop_succ_cons, List.take_succ_cons, List.take_zero, List.cons.injEq, and_true] at e1
  obtain ⟨re, rfl, e2, f2⟩ := (hall 2 _ a2 rfl rfl).int_inv underlying3
  replace e2 : ([c0, c1, c2, c3, c4].drop 4).take (prog.cellsOf 3) = [.int .i64 re] := e2
  rw [show prog.cellsOf 3 = 1 by kernel_rfl] at e2
  simp only [List.drop_zero, List.drop_succ_cons, List.take_succ_cons, List.take_zero, List.cons.injEq, and_true] at e2
  obtain ⟨rfl, rfl⟩ := e0
  obtain ⟨rfl, rfl⟩ := e1
  subst e2
  exact ⟨_, _, _, _, _, rfl, rfl, q0_0, q0_1, q1_0, q1_1, f2⟩
theorem lay_pane0 {h : Heap} {x : Tree} {cs : List Value} (L : Lay prog h 66 x cs) : ∃ (wi : Int) (wt' : Int) (wl' : Int) (wr : Int) (wc : Int) (lv : Value) (ls : List (List Int)) (rv : Value) (rl : List Rw) (tab : Int) (pl : Int) (sv : Value) (st : List Int) (sl : Bool) (ra : Int) (rb : Int) (rc : Int) (rd : Int) (re : Int), cs = [.int .i64 wi, .int .i64 wt', .int .i64 wl', .int .i64 wr, .int .i64 wc, lv, rv, .int .i64 tab, .int .i64 pl, sv, .bool sl, .int .i64 ra, .int .i64 rb, .int .i64 rc, .int .i64 rd, .int .i64 re] ∧ x = .agg [.agg [.num wi, .num wt', .num wl', .num wr, .num wc], .list (ls.map fun xs => .list (xs.map .num)), .list (rl.map treeR), .num tab, .num pl, .list (st.map .num), .bool sl, .agg [.agg [.num ra, .num rb], .agg [.num rc, .num rd], .num re]] ∧ (Lit.int .i64 wi).wf = true ∧ (Lit.int .i64 wt').wf = true ∧ (Lit.int .i64 wl').wf = true ∧ (Lit.int .i64 wr).wf = true ∧ (Lit.int .i64 wc).wf = true ∧ LT h lv ls ∧ RunesOk ls ∧ RR h rv rl ∧ rl.length ≤ maxLen ∧ (Lit.int .i64 tab).wf = true ∧ (Lit.int .i64 pl).wf = true ∧ RdI prog h .i32 sv st ∧ (∀ j, isR (st.getD j 0)) ∧ (Lit.int .i64 ra).wf = true ∧ (Lit.int .i64 rb).wf = true ∧ (Lit.int .i64 rc).wf = true ∧ (Lit.int .i64 rd).wf = true ∧ (Lit.int .i64 re).wf = true := by
  obtain ⟨ps, rfl, hl, hn, hall⟩ := L.struct_inv underlying66
  have hlm : cs.length = 16 := hl.trans (show prog.cellsOf 66 = 16 by kernel_rfl)
  have hnm : ps.length = 8 := hn
  obtain ⟨a0, a1, a2, a3, a4, a5, a6, a7, rfl⟩ : ∃ a0 a1 a2 a3 a4 a5 a6 a7, ps = [a0, a1, a2, a3, a4, a5, a6, a7] := by
    match ps, hnm with
    | [a0, a1, a2, a3, a4, a5, a6, a7], _ => exact ⟨a0, a1, a2, a3, a4, a5, a6, a7, rfl⟩
  obtain ⟨c0, c1, c2, c3, c4, c5, c6, c7, c8, c9, c10, c11, c12, c13, c14, c15, rfl⟩ : ∃ c0 c1 c2 c3 c4 c5 c6 c7 c8 c9 c10 c11 c12 c13 c14 c15, cs = [c0, c1, c2, c3, c4, c5, c6, c7, c8, c9, c10, c11, c12, c13, c14, c15] := by
    match cs, hlm with
    | [c0, c1, c2, c3, c4, c5, c6, c7, c8, c9, c10, c11, c12, c13, c14, c15], _ => exact ⟨c0, c1, c2, c3, c4, c5, c6, c7, c8, c9, c10, c11, c12, c13, c14, c15, rfl⟩
  obtain ⟨wi, wt', wl', wr, wc, e0, rfl, q0_0, q0_1, q0_2, q0_3, q0_4⟩ := lay_win (hall 0 _ a0 rfl rfl)
  replace e0 : ([c0, c1, c2, c3, c4, c5, c6, c7, c8, c9, c10, c11, c12, c13, c14, c15].drop 0).take (prog.cellsOf 47) = [.int .i64 wi, .int .i64 wt', .int .i64 wl', .int .i64 wr, .int .i64 wc] := e0
  rw [show prog.cellsOf 47 = 5 by kernel_rfl] at e0
  simp only [List.drop_zero, List.drop_succ_cons, List.take_succ_cons, List.take_zero, List.cons.injEq, and_true] at e0
  obtain ⟨lv, ls, e1, rfl, q1_0, q1_1⟩ := lay_text (hall 1 _ a1 rfl rfl)
  replace e1 : ([c0, c1, c2, c3, c4, c5, c6, c7, c8, c9, c10, c11, c12, c13, c14, c15].drop 5).take (prog.cellsOf 35) = [lv] := e1
  rw [show prog.cellsOf 35 = 1 by kernel_rfl] at e1
  simp only [List.drop_zero, List.drop_succ_cons, List.take_succ_cons, List.take_zero, List.cons.injEq, and_true] at e1
  obtain ⟨rv, rl, e2, rfl, q2_0, q2_1⟩ := lay_rowsR (hall 2 _ a2 rfl rfl)
  replace e2 : ([c0, c1, c2, c3, c4, c5, c6, c7, c8, c9, c10, c11, c12, c13, c14, c15].drop 6).take (prog.cellsOf 51) = [rv] := e2
  rw [show prog.cellsOf 51 = 1 by kernel_rfl] at e2
  simp only [List.drop_zero, List.drop_succ_cons, List.take_succ_cons, List.take_zero, List.cons.injEq, and_true] at e2
  obtain ⟨tab, rfl, e3, f3⟩ := (hall 3 _ a3 rfl rfl).int_inv underlying3
  replace e3 : ([c0, c1, c2, c3, c4, c5, c6, c7, c8, c9, c10, c11, c12, c13, c14, c15].drop 7).take (prog.cellsOf 3) = [.int .i64 tab] := e3
  rw [show prog.cellsOf 3 = 1 by kernel_rfl] at e3
  simp only [List.drop_zero, List.drop_succ_cons, List.take_succ_cons, List.take_zero, List.cons.injEq, and_true] at e3
  obtain ⟨pl, rfl, e4, f4⟩ := (hall 4 _ a4 rfl rfl).int_inv underlying3
  replace e4 : ([c0, c1, c2, c3, c4, c5, c6, c7, c8, c9, c10, c11, c12, c13, c14, c15].drop 8).take (prog.cellsOf 3) = [.int .i64 pl] := e4
  rw [show prog.cellsOf 3 = 1 by kernel_rfl] at e4
  simp only [List.drop_zero, List.drop_succ_cons, List.take_succ_cons, List.take_zero, List.cons.injEq, and_true] at e4
  obtain ⟨sv, st, e5, rfl, q5_0, q5_1⟩ := lay_runes (hall 5 _ a5 rfl rfl)
  replace e5 : ([c0, c1, c2, c3, c4, c5, c6, c7, c8, c9, c10, c11, c12, c13, c14, c15].drop 9).take (prog.cellsOf 23) = [sv] := e5
  rw [show prog.cellsOf 23 = 1 by kernel_rfl] at e5
  simp only [List.drop_zero, List.drop_succ_cons, List.take_succ_cons, List.take_zero, List.cons.injEq, and_true] at e5
  obtain ⟨sl, rfl, e6⟩ := (hall 6 _ a6 rfl rfl).bool_inv underlying4
  replace e6 : ([c0, c1, c2, c3, c4, c5, c6, c7, c8, c9, c10, c11, c12, c13, c14, c15].drop 10).take (prog.cellsOf 4) = [.bool sl] := e6
  rw [show prog.cellsOf 4 = 1 by kernel_rfl] at e6
  simp only [List.drop_zero, List.drop_succ_cons, List.take_succ_cons, List.take_zero, List.cons.injEq, and_true] at e6
  obtain ⟨ra, rb, rc, rd, re, e7, rfl, q7_0, q7_1, q7_2, q7_3, q7_4⟩ := lay_region (hall 7 _ a7 rfl rfl)
  replace e7 : ([c0, c1, c2, c3, c4, c5, c6, c7, c8, c9, c10, c11, c12, c13, c14, c15].drop 11).take (prog.cellsOf 55) = [.int .i64 ra, .int .i64 rb, .int .i64 rc, .int .i64 rd, .int .i64 re] := e7
  rw [show prog.cellsOf 55 = 5 by kernel_rfl] at e7
  simp only [List.drop_zero, List.drop_succ_cons, List.take_succ_cons, List.take_zero, List.cons.injEq, and_true] at e7
  obtain ⟨rfl, rfl, rfl, rfl, rfl⟩ := e0
  subst e1
  subst e2
  subst e3
  subst e4
  subst e5
  subst e6
  obtain ⟨rfl, rfl, rfl, rfl, rfl⟩ := e7
  exact ⟨_, _, _, _, _, _, _, _, _, _, _, _, _, _, _, _, _, _, _, rfl, rfl, q0_0, q0_1, q0_2, q0_3, q0_4, q1_0, q1_1, q2_0, q2_1, f3, f4, q5_0, q5_1, q7_0, q7_1, q7_2, q7_3, q7_4⟩
def treeP (q : PaR) : Tree := .agg [.agg [.num q.id, .num q.top, .num q.left, .num q.rows, .num q.cols], .list (q.lines.map fun xs => .list (xs.map .num)), .list (q.rs.map treeR), .num q.tab, .num q.pl, .list (q.status.map .num), .bool q.sl, .agg [.agg [.num q.a, .num q.b], .agg [.num q.c, .num q.d], .num q.e]]
/-- As a pane is handed in. -/
def PIn (h : Heap) (q : PaR) : Prop := PRV h q ∧ RunesOk q.lines ∧ ∀ j, isR (q.status.getD j 0)
theorem lay_pane1 {h : Heap} {x : Tree} {cs : List Value} (L : Lay prog h 66 x cs) : ∃ q : PaR, x = treeP q ∧ cs = prC q ∧ PIn h q := by
  obtain ⟨wi, wt', wl', wr, wc, lv, ls, rv, rl, tab, pl, sv, st, sl, ra, rb, rc, rd, re, e1, e2, _, _, _, _, _, f1, f2, f3, _, _, _, f4, f5, _⟩ := lay_pane0 L
  exact ⟨⟨wi, wt', wl', wr, wc, ls, rl, tab, pl, st, sl, ra, rb, rc, rd, re, lv, rv, sv⟩, e2, e1, ⟨f1, f3, f4⟩, f2, f5⟩
theorem lay_panes {h : Heap} {x : Tree} {cs : List Value} (L : Lay prog h 22 x cs) : ∃ (w : Value) (qs : List PaR), cs = [w] ∧ x = .list (qs.map treeP) ∧ PRS h w qs ∧ (∀ q, q ∈ qs → RunesOk q.lines ∧ ∀ j, isR (q.status.getD j 0)) := by
  obtain ⟨w, l, e1, e2, R, hm⟩ := lay_rows (α := {q : PaR // PIn h q}) (c := fun q => prC q.1) (tree := fun q => treeP q.1) underlying22 (show prog.cellsOf 66 = 16 by kernel_rfl) asz66 (fun x cs L => by
    obtain ⟨q, f1, f2, f3⟩ := lay_pane1 L
    exact ⟨⟨q, f3⟩, f1, f2⟩) L
  refine ⟨w, l.map Subtype.val, e1, by rw [e2, List.map_map]; rfl, ⟨?_, fun q hq => ?_⟩, fun q hq => ?_⟩
  · have R' := R
    unfold RS at R'
    unfold RS
    rw [List.length_map, List.flatMap_map]; exact R'
  · obtain ⟨a, _, rfl⟩ := List.mem_map.1 hq
    exact a.2.1
  · obtain ⟨a, _, rfl⟩ := List.mem_map.1 hq
    exact a.2.2
theorem lay_scene {h : Heap} {x : Tree} {cs : List Value} (L : Lay prog h 25 x cs) : ∃ (sr : Int) (sc : Int) (pv : Value) (qs : List PaR) (mv : Value) (ms : List Int) (sy : Int) (sx : Int), cs = [.int .i64 sr, .int .i64 sc, pv, mv, .int .i64 sy, .int .i64 sx] ∧ x = .agg [.num sr, .num sc, .list (qs.map treeP), .list (ms.map .num), .num sy, .num sx] ∧ (Lit.int .i64 sr).wf = true ∧ (Lit.int .i64 sc).wf = true ∧ PRS h pv qs ∧ (∀ q, q ∈ qs → RunesOk q.lines ∧ ∀ j, isR (q.status.getD j 0)) ∧ RdI prog h .i32 mv ms ∧ (∀ j, isR (ms.getD j 0)) ∧ (Lit.int .i64 sy).wf = true ∧ (Lit.int .i64 sx).wf = true := by
  obtain ⟨ps, rfl, hl, hn, hall⟩ := L.struct_inv underlying25
  have hlm : cs.length = 6 := hl.trans (show prog.cellsOf 25 = 6 by kernel_rfl)
  have hnm : ps.length = 6 := hn
  obtain ⟨a0, a1, a2, a3, a4, a5, rfl⟩ : ∃ a0 a1 a2 a3 a4 a5, ps = [a0, a1, a2, a3, a4, a5] := by
    match ps, hnm with
    | [a0, a1, a2, a3, a4, a5], _ => exact ⟨a0, a1, a2, a3, a4, a5, rfl⟩
  obtain ⟨c0, c1, c2, c3, c4, c5, rfl⟩ : ∃ c0 c1 c2 c3 c4 c5, cs = [c0, c1, c2, c3, c4, c5] := by
    match cs, hlm with
    | [c0, c1, c2, c3, c4, c5], _ => exact ⟨c0, c1, c2, c3, c4, c5, rfl⟩
  obtain ⟨sr, rfl, e0, f0⟩ := (hall 0 _ a0 rfl rfl).int_inv underlying3
  replace e0 : ([c0, c1, c2, c3, c4, c5].drop 0).take (prog.cellsOf 3) = [.int .i64 sr] := e0
  rw [show prog.cellsOf 3 = 1 by kernel_rfl] at e0
  simp only [List.drop_zero, List.drop_succ_cons, List.take_succ_cons, List.take_zero, List.cons.injEq, and_true] at e0
  obtain ⟨sc, rfl, e1, f1⟩ := (hall 1 _ a1 rfl rfl).int_inv underlying3
  replace e1 : ([c0, c1, c2, c3, c4, c5].drop 1).take (prog.cellsOf 3) = [.int .i64 sc] := e1
  rw [show prog.cellsOf 3 = 1 by kernel_rfl] at e1
  simp only [List.drop_zero, List.drop_succ_cons, List.take_succ_cons, List.take_zero, List.cons.injEq, and_true] at e1
  obtain ⟨pv, qs, e2, rfl, q2_0, q2_1⟩ := lay_panes (hall 2 _ a2 rfl rfl)
  replace e2 : ([c0, c1, c2, c3, c4, c5].drop 2).take (prog.cellsOf 22) = [pv] := e2
  rw [show prog.cellsOf 22 = 1 by kernel_rfl] at e2
  simp only [List.drop_zero, List.drop_succ_cons, List.take_succ_cons, List.take_zero, List.cons.injEq, and_true] at e2
  obtain ⟨mv, ms, e3, rfl, q3_0, q3_1⟩ := lay_runes (hall 3 _ a3 rfl rfl)
  replace e3 : ([c0, c1, c2, c3, c4, c5].drop 3).take (prog.cellsOf 23) = [mv] := e3
  rw [show prog.cellsOf 23 = 1 by kernel_rfl] at e3
  simp only [List.drop_zero, List.drop_succ_cons, List.take_succ_cons, List.take_zero, List.cons.injEq, and_true] at e3
  obtain ⟨sy, rfl, e4, f4⟩ := (hall 4 _ a4 rfl rfl).int_inv underlying3
  replace e4 : ([c0, c1, c2, c3, c4, c5].drop 4).take (prog.cellsOf 3) = [.int .i64 sy] := e4
  rw [show prog.cellsOf 3 = 1 by kernel_rfl] at e4
  simp only [List.drop_zero, List.drop_succ_cons, List.take_succ_cons, List.take_zero, List.cons.injEq, and_true] at e4
  obtain ⟨sx, rfl, e5, f5⟩ := (hall 5 _ a5 rfl rfl).int_inv underlying3
  replace e5 : ([c0, c1, c2, c3, c4, c5].drop 5).take (prog.cellsOf 3) = [.int .i64 sx] := e5
  rw [show prog.cellsOf 3 = 1 by kernel_rfl] at e5
  simp only [List.drop_zero, List.drop_succ_cons, List.take_succ_cons, List.take_zero, List.cons.injEq, and_true] at e5
  subst e0
  subst e1
  subst e2
  subst e3
  subst e4
  subst e5
  exact ⟨_, _, _, _, _, _, _, _, rfl, rfl, f0, f1, q2_0, q2_1, q3_0, q3_1, f4, f5⟩
end Go.Proofs.YtcgajolmjjeibaaDoor.Am
end
section
/- Scenes handed in to GridSames: what is small of them; as the law takes them. -/
set_option linter.unusedSimpArgs false
set_option linter.unusedVariables false
set_option maxRecDepth 100000
namespace Go.Proofs.YtcgajolmjjeibaaDoor.Am
open Go Go.ChangeShapes Go.WideShapes Go.ChangeAt Go.RowKit Go.Proofs.Tryd
theorem tw_mem {l : List Tree} {x : Tree} (h : x ∈ l) : tw x ≤ twL l := by
  obtain ⟨i, hi, e⟩ := List.getElem_of_mem h
  exact twL_get (i := i) (by rw [← e]; exact List.getElem?_eq_getElem hi)
theorem tw_pane {q : PaR} : sumL q.lines + q.lines.length + q.rs.length + q.status.length ≤ tw (treeP q) := by
  have h1 := tw_text (ls := q.lines)
  have h2 := tw_runes (xs := q.status)
  have h3 := twL_len (q.rs.map treeR)
  rw [List.length_map] at h3
  have h4 : tw (.list (q.rs.map treeR)) = twL (q.rs.map treeR) + 1 := by simp only [tw]
  unfold treeP
  rw [tw]
  simp only [twL]
  rw [h1, h2, h4]
  omega
theorem scene_small {sr sc sy sx : Int} {qs : List PaR} {ms : List Int} (h : tw (.agg [.num sr, .num sc, .list (qs.map treeP), .list (ms.map .num), .num sy, .num sx]) ≤ 1048576) :
    qs.length ≤ 10000000 ∧ ms.length ≤ 10000000 ∧ ∀ q, q ∈ qs → q.lines.length ≤ 10000000 ∧ sumL q.lines ≤ 10000000 ∧ q.rs.length ≤ 10000000 ∧ q.status.length ≤ 10000000 := by
  have h2 := tw_runes (xs := ms)
  have h4 : tw (.list (qs.map treeP)) = twL (qs.map treeP) + 1 := by simp only [tw]
  rw [tw] at h
  simp only [twL] at h
  rw [h2, h4] at h
  have h5 := twL_len (qs.map treeP)
  rw [List.length_map] at h5
  refine ⟨by omega, by omega, fun q hq => ?_⟩
  have h6 := tw_mem (List.mem_map.2 ⟨q, hq, rfl⟩ : treeP q ∈ qs.map treeP)
  have h7 := tw_pane (q := q)
  omega
def scOf {h : Heap} {sr sc sy sx : Int} {pv mv : Value} {qs : List PaR} {ms : List Int} (V : PRS h pv qs) (M : RdI prog h .i32 mv ms) (tx : ∀ q, q ∈ qs → RunesOk q.lines ∧ ∀ j, isR (q.status.getD j 0)) (mx : ∀ j, isR (ms.getD j 0))
    (hs : tw (.agg [.num sr, .num sc, .list (qs.map treeP), .list (ms.map .num), .num sy, .num sx]) ≤ 1048576) : ScI h :=
  ⟨sr, sc, pv, mv, sy, sx, qs, ms, V, M, tx, mx, (scene_small hs).1, (scene_small hs).2.1, (scene_small hs).2.2⟩
end Go.Proofs.YtcgajolmjjeibaaDoor.Am
end
