/- What is handed in to the statements of chapter 6, from its reading to the abstract heap. -/
import Derived.Test.YtepibodbcheobaaRg
import Derived.Test.YtepibodbcheobaaR1
import Derived.Test.YtepibodbcheobaaMi
set_option linter.unusedSimpArgs false
set_option linter.unusedVariables false
set_option maxRecDepth 100000
namespace Go.Proofs.Ytepibodbcheobaa.Am
open Go Go.ChangeShapes Go.WideShapes Go.ChangeAt Go.RowKit Go.Proofs.Try
/-- A slice that was handed in: how many it holds. -/
theorem lay_count {P : Program} {h : Heap} {t e : TypeId} {x : Tree} {cs : List Value} (ht : P.underlying t = some (.slice e)) (L : Lay P h t x cs) : ∃ (w : Value) (es : List Tree), cs = [w] ∧ x = .list es ∧ one w = true ∧ abuiltin P .len #[t] #[w] = some (.int .i64 es.length) := by
  obtain ⟨es, rfl, hl, ⟨rfl, rfl⟩ | ⟨b, cells, rfl, hb, hk, hc, hx⟩⟩ := L.slice_inv ht
  · exact ⟨_, [], rfl, rfl, rfl, (Rd.nil0 (P := P) (h := h) (s := 1)).len ht⟩
  · refine ⟨_, es, rfl, rfl, rfl, ?_⟩
    simp [abuiltin, ht]
theorem lay_int1 {t : TypeId} {k : IntKind} {h : Heap} {x : Tree} {cs : List Value} (ht : prog.underlying t = some (.int k)) (L : Lay prog h t x cs) : ∃ z : Int, x = .num z ∧ cs = [.int k z] := by
  obtain ⟨z, e1, e2, _⟩ := L.int_inv ht
  exact ⟨z, e1, e2⟩
theorem fm_one {k : IntKind} {xs : List Int} : xs.flatMap (fun z => [Value.int k z]) = xs.map (Value.int k) := by
  induction xs with
  | nil => rfl
  | cons x xs ih => simp [List.flatMap_cons, ih]
theorem lay_ints {h : Heap} {x : Tree} {cs : List Value} (L : Lay prog h 53 x cs) : ∃ (w : Value) (xs : List Int), cs = [w] ∧ RdI prog h .i32 w xs := by
  obtain ⟨w, xs, e1, e2, R, hm⟩ := lay_rows (c := fun z : Int => [Value.int .i32 z]) (tree := Tree.num) underlying53 (show prog.cellsOf 21 = 1 by kernel_rfl) asz21 (fun x cs => lay_int1 underlying21) L
  exact ⟨w, xs, e1, by have := R; rw [fm_one] at this; exact this⟩
theorem lay_lines {h : Heap} {x : Tree} {cs : List Value} (L : Lay prog h 24 x cs) : ∃ (w : Value) (es : List Tree) (ls : List (List Int)), cs = [w] ∧ x = .list es ∧ LT h w ls ∧ ls.length = es.length := by
  obtain ⟨es, rfl, _, ⟨rfl, rfl⟩ | ⟨b, cells, rfl, hb, hk, hc, hall⟩⟩ := L.slice_inv underlying24
  · exact ⟨_, [], [], rfl, rfl, ⟨[], rfl, Rd.nil0, fun i x xs h => by simp at h⟩, rfl⟩
  · have hc1 : prog.cellsOf 53 = 1 := by kernel_rfl
    rw [hc1, Nat.mul_one] at hc
    have hch : ∀ (es : List Tree) (cells : List Value), cells.length = es.length → (∀ (i : Nat) x, es[i]? = some x → Lay prog h 53 x ((cells.drop (i * 1)).take 1)) →
        ∃ ls : List (List Int), ls.length = es.length ∧ (∀ (i : Nat) v xs, cells[i]? = some v → ls[i]? = some xs → RdI prog h .i32 v xs) := by
      intro es
      induction es with
      | nil => intro cells _ _; exact ⟨[], rfl, fun i v xs _ h => by simp at h⟩
      | cons e es ih =>
        intro cells hl hall
        match cells, hl with
        | c :: cells, hl =>
          obtain ⟨ls, l1, l3⟩ := ih cells (by simpa using hl) (fun i x hx => by have := hall (i + 1) x (by simpa using hx); simpa using this)
          have L0 := hall 0 e rfl
          simp only [Nat.zero_mul, List.drop_zero, List.take_succ_cons, List.take_zero] at L0
          obtain ⟨w, xs, e1, R⟩ := lay_ints L0
          simp only [List.cons.injEq, and_true] at e1
          subst e1
          refine ⟨xs :: ls, by simp [l1], fun i v ys hv hy => ?_⟩
          cases i with
          | zero => simp at hv hy; subst hv; subst hy; exact R
          | succ i => exact l3 i v ys (by simpa using hv) (by simpa using hy)
    rw [hc1] at hall
    obtain ⟨ls, l1, l3⟩ := hch es cells hc hall
    exact ⟨_, es, ls, rfl, rfl, ⟨cells, by omega, ⟨by simp, .inr ⟨b, 0, 0, _, by rw [hc], hb, hk, rfl, asz53, by simp [inBlk], by simp [inBlk]⟩⟩, fun i v xs hv hx => l3 i v xs hv hx⟩, l1⟩
theorem lay_pos {h : Heap} {x : Tree} {cs : List Value} (L : Lay prog h 23 x cs) : ∃ (pl : Int) (pc : Int), cs = [.int .i64 pl, .int .i64 pc] ∧ x = .agg [.num pl, .num pc] ∧ (Lit.int .i64 pl).wf = true ∧ (Lit.int .i64 pc).wf = true := by
  obtain ⟨ps, rfl, hl, hn, hall⟩ := L.struct_inv underlying23
  have hlm : cs.length = 2 := hl.trans (show prog.cellsOf 23 = 2 by kernel_rfl)
  have hnm : ps.length = 2 := hn
  obtain ⟨a0, a1, rfl⟩ : ∃ a0 a1, ps = [a0, a1] := by
    match ps, hnm with
    | [a0, a1], _ => exact ⟨a0, a1, rfl⟩
  obtain ⟨c0, c1, rfl⟩ : ∃ c0 c1, cs = [c0, c1] := by
    match cs, hlm with
    | [c0, c1], _ => exact ⟨c0, c1, rfl⟩
  obtain ⟨pl, rfl, e0, f0⟩ := (hall 0 _ a0 rfl rfl).int_inv underlying3
  replace e0 : ([c0, c1].drop 0).take (prog.cellsOf 3) = [.int .i64 pl] := e0
  rw [show prog.cellsOf 3 = 1 by kernel_rfl] at e0
  simp only [List.drop_zero, List.drop_succ_cons, List.take_succ_cons, List.take_zero, List.cons.injEq, and_true] at e0
  obtain ⟨pc, rfl, e1, f1⟩ := (hall 1 _ a1 rfl rfl).int_inv underlying3
  replace e1 : ([c0, c1].drop 1).take (prog.cellsOf 3) = [.int .i64 pc] := e1
  rw [show prog.cellsOf 3 = 1 by kernel_rfl] at e1
  simp only [List.drop_zero, List.drop_succ_cons, List.take_succ_cons, List.take_zero, List.cons.injEq, and_true] at e1
  subst e0
  subst e1
  exact ⟨_, _, rfl, rfl, f0, f1⟩
theorem lay_chg {h : Heap} {x : Tree} {cs : List Value} (L : Lay prog h 26 x cs) : ∃ (c : Int) (ov : Value) (ea : List Tree) (nv : Value) (eb : List Tree) (ls : List (List Int)), cs = [.int .i64 c, ov, nv] ∧ x = .agg [.num c, .list ea, .list eb] ∧ (Lit.int .i64 c).wf = true ∧ one ov = true ∧ abuiltin prog .len #[24] #[ov] = some (.int .i64 ea.length) ∧ LT h nv ls ∧ ls.length = eb.length := by
  obtain ⟨ps, rfl, hl, hn, hall⟩ := L.struct_inv underlying26
  have hlm : cs.length = 3 := hl.trans (show prog.cellsOf 26 = 3 by kernel_rfl)
  have hnm : ps.length = 3 := hn
  obtain ⟨a0, a1, a2, rfl⟩ : ∃ a0 a1 a2, ps = [a0, a1, a2] := by
    match ps, hnm with
    | [a0, a1, a2], _ => exact ⟨a0, a1, a2, rfl⟩
  obtain ⟨c0, c1, c2, rfl⟩ : ∃ c0 c1 c2, cs = [c0, c1, c2] := by
    match cs, hlm with
    | [c0, c1, c2], _ => exact ⟨c0, c1, c2, rfl⟩
  obtain ⟨c, rfl, e0, f0⟩ := (hall 0 _ a0 rfl rfl).int_inv underlying3
  replace e0 : ([c0, c1, c2].drop 0).take (prog.cellsOf 3) = [.int .i64 c] := e0
  rw [show prog.cellsOf 3 = 1 by kernel_rfl] at e0
  simp only [List.drop_zero, List.drop_succ_cons, List.take_succ_cons, List.take_zero, List.cons.injEq, and_true] at e0
  obtain ⟨ov, ea, e1, rfl, q1_0, q1_1⟩ := lay_count underlying24 (hall 1 _ a1 rfl rfl)
  replace e1 : ([c0, c1, c2].drop 1).take (prog.cellsOf 24) = [ov] := e1
  rw [show prog.cellsOf 24 = 1 by kernel_rfl] at e1
  simp only [List.drop_zero, List.drop_succ_cons, List.take_succ_cons, List.take_zero, List.cons.injEq, and_true] at e1
  obtain ⟨nv, eb, ls, e2, rfl, q2_0, q2_1⟩ := lay_lines (hall 2 _ a2 rfl rfl)
  replace e2 : ([c0, c1, c2].drop 2).take (prog.cellsOf 24) = [nv] := e2
  rw [show prog.cellsOf 24 = 1 by kernel_rfl] at e2
  simp only [List.drop_zero, List.drop_succ_cons, List.take_succ_cons, List.take_zero, List.cons.injEq, and_true] at e2
  subst e0
  subst e1
  subst e2
  exact ⟨_, _, _, _, _, _, rfl, rfl, f0, q1_0, q1_1, q2_0, q2_1⟩
theorem lay_deed {h : Heap} {x : Tree} {cs : List Value} (L : Lay prog h 45 x cs) : ∃ (k : Int) (r : Int) (pl : Int) (pc : Int) (c : Int) (ov : Value) (ea : List Tree) (nv : Value) (eb : List Tree) (ls : List (List Int)), cs = [.int .i64 k, .int .i32 r, .int .i64 pl, .int .i64 pc, .int .i64 c, ov, nv] ∧ x = .agg [.num k, .num r, .agg [.num pl, .num pc], .agg [.num c, .list ea, .list eb]] ∧ (Lit.int .i64 k).wf = true ∧ (Lit.int .i32 r).wf = true ∧ (Lit.int .i64 pl).wf = true ∧ (Lit.int .i64 pc).wf = true ∧ (Lit.int .i64 c).wf = true ∧ one ov = true ∧ abuiltin prog .len #[24] #[ov] = some (.int .i64 ea.length) ∧ LT h nv ls ∧ ls.length = eb.length := by
  obtain ⟨ps, rfl, hl, hn, hall⟩ := L.struct_inv underlying45
  have hlm : cs.length = 7 := hl.trans (show prog.cellsOf 45 = 7 by kernel_rfl)
  have hnm : ps.length = 4 := hn
  obtain ⟨a0, a1, a2, a3, rfl⟩ : ∃ a0 a1 a2 a3, ps = [a0, a1, a2, a3] := by
    match ps, hnm with
    | [a0, a1, a2, a3], _ => exact ⟨a0, a1, a2, a3, rfl⟩
  obtain ⟨c0, c1, c2, c3, c4, c5, c6, rfl⟩ : ∃ c0 c1 c2 c3 c4 c5 c6, cs = [c0, c1, c2, c3, c4, c5, c6] := by
    match cs, hlm with
    | [c0, c1, c2, c3, c4, c5, c6], _ => exact ⟨c0, c1, c2, c3, c4, c5, c6, rfl⟩
  obtain ⟨k, rfl, e0, f0⟩ := (hall 0 _ a0 rfl rfl).int_inv underlying3
  replace e0 : ([c0, c1, c2, c3, c4, c5, c6].drop 0).take (prog.cellsOf 3) = [.int .i64 k] := e0
  rw [show prog.cellsOf 3 = 1 by kernel_rfl] at e0
  simp only [List.drop_zero, List.drop_succ_cons, List.take_succ_cons, List.take_zero, List.cons.injEq, and_true] at e0
  obtain ⟨r, rfl, e1, f1⟩ := (hall 1 _ a1 rfl rfl).int_inv underlying21
  replace e1 : ([c0, c1, c2, c3, c4, c5, c6].drop 1).take (prog.cellsOf 21) = [.int .i32 r] := e1
  rw [show prog.cellsOf 21 = 1 by kernel_rfl] at e1
  simp only [List.drop_zero, List.drop_succ_cons, List.take_succ_cons, List.take_zero, List.cons.injEq, and_true] at e1
  obtain ⟨pl, pc, e2, rfl, q2_0, q2_1⟩ := lay_pos (hall 2 _ a2 rfl rfl)
  replace e2 : ([c0, c1, c2, c3, c4, c5, c6].drop 2).take (prog.cellsOf 23) = [.int .i64 pl, .int .i64 pc] := e2
  rw [show prog.cellsOf 23 = 2 by kernel_rfl] at e2
  simp only [List.drop_zero, List.drop_succ_cons, List.take_succ_cons, List.take_zero, List.cons.injEq, and_true] at e2
  obtain ⟨c, ov, ea, nv, eb, ls, e3, rfl, q3_0, q3_1, q3_2, q3_3, q3_4⟩ := lay_chg (hall 3 _ a3 rfl rfl)
  replace e3 : ([c0, c1, c2, c3, c4, c5, c6].drop 4).take (prog.cellsOf 26) = [.int .i64 c, ov, nv] := e3
  rw [show prog.cellsOf 26 = 3 by kernel_rfl] at e3
  simp only [List.drop_zero, List.drop_succ_cons, List.take_succ_cons, List.take_zero, List.cons.injEq, and_true] at e3
  subst e0
  subst e1
  obtain ⟨rfl, rfl⟩ := e2
  obtain ⟨rfl, rfl, rfl⟩ := e3
  exact ⟨_, _, _, _, _, _, _, _, _, _, rfl, rfl, f0, f1, q2_0, q2_1, q3_0, q3_1, q3_2, q3_3, q3_4⟩
end Go.Proofs.Ytepibodbcheobaa.Am
