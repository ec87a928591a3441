/- The texts of this seat, one behind another (part 22 of 25): the frame (an abstract machine), the contracts of functions, the laws. -/
import Derived.Test.YthmpaddhmgnkbaaDoorZ21
import Derived.Test.YthmpaddhmgnkbaaDoorZ14
import Derived.Test.YthmpaddhmgnkbaaDoorZ10
import Derived.Carry
section
/- Grids that are handed in, from their reading to the abstract heap. -/
set_option linter.unusedSimpArgs false
set_option linter.unusedVariables false
set_option maxRecDepth 100000
namespace Go.Proofs.YthmpaddhmgnkbaaDoor.Am
open Go Go.ChangeShapes Go.WideShapes Go.ChangeAt Go.RowKit Go.Proofs.Tryd
theorem lay_int1 {t : TypeId} {k : IntKind} {h : Heap} {x : Tree} {cs : List Value} (ht : prog.underlying t = some (.int k)) (L : Lay prog h t x cs) : ∃ z : Int, x = .num z ∧ cs = [.int k z] := by
  obtain ⟨z, e1, e2, _⟩ := L.int_inv ht
  exact ⟨z, e1, e2⟩
theorem fm_one {k : IntKind} {xs : List Int} : xs.flatMap (fun z => [Value.int k z]) = xs.map (Value.int k) := by
  induction xs with
  | nil => rfl
  | cons x xs ih => simp [List.flatMap_cons, ih]
theorem lay_i32 {h : Heap} {x : Tree} {cs : List Value} (L : Lay prog h 43 x cs) : ∃ (w : Value) (xs : List Int), cs = [w] ∧ x = .list (xs.map .num) ∧ RdI prog h .i32 w xs ∧ (∀ z, z ∈ xs → isR z) ∧ xs.length ≤ maxLen := by
  have hwf : ∀ {es : List Tree}, (∀ e, e ∈ es → ∃ cs', Lay prog h 21 e cs') → ∀ z, Tree.num z ∈ es → -2147483648 ≤ z ∧ z ≤ 2147483647 := fun {es} H z hz => by
    obtain ⟨cs', L'⟩ := H _ hz
    obtain ⟨y, e, _, w⟩ := L'.int_inv underlying21
    cases e
    exact (Lit.wf_int_iff .i32 z).1 w
  have L0 := L
  obtain ⟨w, xs, e1, e2, R, hm⟩ := lay_rows (c := fun z : Int => [Value.int .i32 z]) (tree := Tree.num) underlying43 (show prog.cellsOf 21 = 1 by kernel_rfl) asz21 (fun x cs => lay_int1 underlying21) L
  subst e1
  obtain ⟨es, e3, _, h4⟩ := L0.slice_inv underlying43
  rw [e2] at e3
  have e3 : xs.map Tree.num = es := by cases e3; rfl
  refine ⟨w, xs, rfl, e2, by have := R; unfold RS at this; rw [fm_one] at this; exact this, fun z hx => ?_, hm⟩
  have hz : Tree.num z ∈ es := by rw [← e3]; exact List.mem_map.2 ⟨z, hx, rfl⟩
  have := hwf (es := es) (fun e he => by
    rcases h4 with ⟨rfl, _⟩ | ⟨b, cells, _, _, _, _, hall⟩
    · cases he
    · obtain ⟨i, hi, e⟩ := List.getElem_of_mem he
      exact ⟨_, hall i _ (by rw [← e]; exact List.getElem?_eq_getElem hi)⟩) z hz
  exact this
theorem lay_cell0 {h : Heap} {x : Tree} {cs : List Value} (L : Lay prog h 45 x cs) : ∃ (tv : Value) (xs : List Int) (a : Int) (w : Bool), cs = [tv, .int .i64 a, .bool w] ∧ x = .agg [.list (xs.map .num), .num a, .bool w] ∧ RdI prog h .i32 tv xs ∧ (∀ z, z ∈ xs → isR z) ∧ xs.length ≤ maxLen ∧ (Lit.int .i64 a).wf = true := by
  obtain ⟨ps, rfl, hl, hn, hall⟩ := L.struct_inv underlying45
  have hlm : cs.length = 3 := hl.trans (show prog.cellsOf 45 = 3 by kernel_rfl)
  have hnm : ps.length = 3 := hn
  obtain ⟨a0, a1, a2, rfl⟩ : ∃ a0 a1 a2, ps = [a0, a1, a2] := by
    match ps, hnm with
    | [a0, a1, a2], _ => exact ⟨a0, a1, a2, rfl⟩
  obtain ⟨c0, c1, c2, rfl⟩ : ∃ c0 c1 c2, cs = [c0, c1, c2] := by
    match cs, hlm with
    | [c0, c1, c2], _ => exact ⟨c0, c1, c2, rfl⟩
  obtain ⟨tv, xs, e0, rfl, q0_0, q0_1, q0_2⟩ := lay_i32 (hall 0 _ a0 rfl rfl)
  replace e0 : ([c0, c1, c2].drop 0).take (prog.cellsOf 43) = [tv] := e0
  rw [show prog.cellsOf 43 = 1 by kernel_rfl] at e0
  simp only [List.drop_zero, List.drop_succ_cons, List.take_succ_cons, List.take_zero, List.cons.injEq, and_true] at e0
  obtain ⟨a, rfl, e1, f1⟩ := (hall 1 _ a1 rfl rfl).int_inv underlying3
  replace e1 : ([c0, c1, c2].drop 1).take (prog.cellsOf 3) = [.int .i64 a] := e1
  rw [show prog.cellsOf 3 = 1 by kernel_rfl] at e1
  simp only [List.drop_zero, List.drop_succ_cons, List.take_succ_cons, List.take_zero, List.cons.injEq, and_true] at e1
  obtain ⟨w, rfl, e2⟩ := (hall 2 _ a2 rfl rfl).bool_inv underlying4
  replace e2 : ([c0, c1, c2].drop 2).take (prog.cellsOf 4) = [.bool w] := e2
  rw [show prog.cellsOf 4 = 1 by kernel_rfl] at e2
  simp only [List.drop_zero, List.drop_succ_cons, List.take_succ_cons, List.take_zero, List.cons.injEq, and_true] at e2
  subst e0
  subst e1
  subst e2
  exact ⟨_, _, _, _, rfl, rfl, q0_0, q0_1, q0_2, f1⟩
def treeC (p : PC) : Tree := .agg [.list (p.2.tx.map .num), .num p.2.ar, .bool p.2.wd]
def CIn (h : Heap) (p : PC) : Prop := RdI prog h .i32 p.1 p.2.tx ∧ ∀ z, z ∈ p.2.tx → isR z
theorem lay_cell1 {h : Heap} {x : Tree} {cs : List Value} (L : Lay prog h 45 x cs) : ∃ p : PC, x = treeC p ∧ cs = cC p ∧ CIn h p := by
  obtain ⟨tv, xs, a, w, e1, e2, f1, f2, _⟩ := lay_cell0 L
  exact ⟨(tv, ⟨xs, a, w⟩), e2, e1, f1, f2⟩
def treeCs (l : List Cel) : Tree := .list (l.map fun c => .agg [.list (c.tx.map .num), .num c.ar, .bool c.wd])
def CelR (l : List Cel) : Prop := ∀ c, c ∈ l → ∀ z, z ∈ c.tx → isR z
theorem lay_cells {h : Heap} {x : Tree} {cs : List Value} (L : Lay prog h 22 x cs) : ∃ (w : Value) (l : List Cel), cs = [w] ∧ x = treeCs l ∧ GR h w l ∧ CelR l := by
  obtain ⟨w, l, e1, e2, R, hm⟩ := lay_rows (α := {p : PC // CIn h p}) (c := fun p => cC p.1) (tree := fun p => treeC p.1) underlying22 (show prog.cellsOf 45 = 3 by kernel_rfl) asz45 (fun x cs L => by
    obtain ⟨p, f1, f2, f3⟩ := lay_cell1 L
    exact ⟨⟨p, f3⟩, f1, f2⟩) L
  refine ⟨w, l.map (fun p => p.1.2), e1, by rw [e2]; unfold treeCs; rw [List.map_map]; rfl, ⟨l.map Subtype.val, by rw [List.map_map]; rfl, ?_, fun p hp => ?_⟩, fun c hc => ?_⟩
  · have R' := R
    unfold RS at R'
    unfold RS
    rw [List.length_map, List.flatMap_map]; exact R'
  · obtain ⟨a, _, rfl⟩ := List.mem_map.1 hp
    exact a.2.1
  · obtain ⟨a, _, rfl⟩ := List.mem_map.1 hc
    exact a.2.2
theorem lay_grid0 {h : Heap} {x : Tree} {cs : List Value} (L : Lay prog h 24 x cs) : ∃ (r : Int) (c : Int) (cv : Value) (l : List Cel) (y : Int) (z : Int), cs = [.int .i64 r, .int .i64 c, cv, .int .i64 y, .int .i64 z] ∧ x = .agg [.num r, .num c, treeCs l, .num y, .num z] ∧ (Lit.int .i64 r).wf = true ∧ (Lit.int .i64 c).wf = true ∧ GR h cv l ∧ CelR l ∧ (Lit.int .i64 y).wf = true ∧ (Lit.int .i64 z).wf = true := by
  obtain ⟨ps, rfl, hl, hn, hall⟩ := L.struct_inv underlying24
  have hlm : cs.length = 5 := hl.trans (show prog.cellsOf 24 = 5 by kernel_rfl)
  have hnm : ps.length = 5 := hn
  obtain ⟨a0, a1, a2, a3, a4, rfl⟩ : ∃ a0 a1 a2 a3 a4, ps = [a0, a1, a2, a3, a4] := by
    match ps, hnm with
    | [a0, a1, a2, a3, a4], _ => exact ⟨a0, a1, a2, a3, a4, rfl⟩
  obtain ⟨c0, c1, c2, c3, c4, rfl⟩ : ∃ c0 c1 c2 c3 c4, cs = [c0, c1, c2, c3, c4] := by
    match cs, hlm with
    | [c0, c1, c2, c3, c4], _ => exact ⟨c0, c1, c2, c3, c4, rfl⟩
  obtain ⟨r, rfl, e0, f0⟩ := (hall 0 _ a0 rfl rfl).int_inv underlying3
  replace e0 : ([c0, c1, c2, c3, c4].drop 0).take (prog.cellsOf 3) = [.int .i64 r] := e0
  rw [show prog.cellsOf 3 = 1 by kernel_rfl] at e0
  simp only [List.drop_zero, List.drop_succ_cons, List.take_succ_cons, List.take_zero, List.cons.injEq, and_true] at e0
  obtain ⟨c, rfl, e1, f1⟩ := (hall 1 _ a1 rfl rfl).int_inv underlying3
  replace e1 : ([c0, c1, c2, c3, c4].drop 1).take (prog.cellsOf 3) = [.int .i64 c] := e1
  rw [show prog.cellsOf 3 = 1 by kernel_rfl] at e1
  simp only [List.drop_zero, List.drop_succ_cons, List.take_succ_cons, List.take_zero, List.cons.injEq, and_true] at e1
  obtain ⟨cv, l, e2, rfl, q2_0, q2_1⟩ := lay_cells (hall 2 _ a2 rfl rfl)
  replace e2 : ([c0, c1, c2, c3, c4].drop 2).take (prog.cellsOf 22) = [cv] := e2
  rw [show prog.cellsOf 22 = 1 by kernel_rfl] at e2
  simp only [List.drop_zero, List.drop_succ_cons, List.take_succ_cons, List.take_zero, List.cons.injEq, and_true] at e2
  obtain ⟨y, rfl, e3, f3⟩ := (hall 3 _ a3 rfl rfl).int_inv underlying3
  replace e3 : ([c0, c1, c2, c3, c4].drop 3).take (prog.cellsOf 3) = [.int .i64 y] := e3
  rw [show prog.cellsOf 3 = 1 by kernel_rfl] at e3
  simp only [List.drop_zero, List.drop_succ_cons, List.take_succ_cons, List.take_zero, List.cons.injEq, and_true] at e3
  obtain ⟨z, rfl, e4, f4⟩ := (hall 4 _ a4 rfl rfl).int_inv underlying3
  replace e4 : ([c0, c1, c2, c3, c4].drop 4).take (prog.cellsOf 3) = [.int .i64 z] := e4
  rw [show prog.cellsOf 3 = 1 by kernel_rfl] at e4
  simp only [List.drop_zero, List.drop_succ_cons, List.take_succ_cons, List.take_zero, List.cons.injEq, and_true] at e4
  subst e0
  subst e1
  subst e2
  subst e3
  subst e4
  exact ⟨_, _, _, _, _, _, rfl, rfl, f0, f1, q2_0, q2_1, f3, f4⟩
def treeG (g : GM) : Tree := .agg [.num g.R, .num g.C, treeCs g.l, .num g.y, .num g.x]
theorem lay_grid {h : Heap} {x : Tree} {cs : List Value} (L : Lay prog h 24 x cs) : ∃ (cv : Value) (g : GM), cs = mC g cv ∧ x = treeG g ∧ GR h cv g.l ∧ CelR g.l := by
  obtain ⟨r, c, cv, l, y, z, e1, e2, _, _, f1, f2, _⟩ := lay_grid0 L
  exact ⟨cv, ⟨r, c, l, y, z⟩, e1, e2, f1, f2⟩
theorem tw_nums : ∀ xs : List Int, twL (xs.map Tree.num) = xs.length
  | [] => rfl
  | x :: xs => by simp only [List.map_cons, twL, tw, tw_nums xs, List.length_cons]; omega
theorem tw_cells : ∀ {l : List Cel}, (∀ c, c ∈ l → c.tx.length ≤ twL (l.map fun c => Tree.agg [.list (c.tx.map .num), .num c.ar, .bool c.wd])) ∧ l.length ≤ twL (l.map fun c => Tree.agg [.list (c.tx.map .num), .num c.ar, .bool c.wd])
  | [] => ⟨(fun c hc => by cases hc), Nat.le_refl _⟩
  | d :: l => by
    obtain ⟨h1, h2⟩ := tw_cells (l := l)
    simp only [List.map_cons, twL, tw, tw_nums, List.length_cons]
    refine ⟨fun c hc => ?_, by omega⟩
    rcases List.mem_cons.1 hc with rfl | hc
    · omega
    · have := h1 c hc; omega
/-- What the bound on the input gives of a grid. -/
theorem small_grid {H : Type} {l : List (DataW H)} {d : DataW H} {g : GM} (hk : Rows.uptoSmall H l = true) (hd : d ∈ l) (D : Dat d (treeG g)) (hR : CelR g.l) : TxR g.l ∧ g.l.length ≤ 1048576 := by
  have h1 := small_tree hk hd D
  obtain ⟨h2, h3⟩ := tw_cells (l := g.l)
  simp only [treeG, treeCs, tw, twL] at h1
  refine ⟨fun c hc => ⟨hR c hc, ?_⟩, by omega⟩
  have := h2 c hc
  omega
end Go.Proofs.YthmpaddhmgnkbaaDoor.Am
end
