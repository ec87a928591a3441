/- The texts of this seat, one behind another (part 9 of 10): the frame (an abstract machine), the contracts of functions, the laws. -/
import Derived.Test.YtefpalmihdbmiaaDoorZ8
section
/- Grids compared: contracts of Grid at none, and of the document's Cell and Same, by walks. -/
set_option linter.unusedSimpArgs false
set_option linter.unusedVariables false
set_option maxHeartbeats 4000000
set_option maxRecDepth 20000
namespace Go.Proofs.YtefpalmihdbmiaaDoor.Am
open Go Go.RowKit Go.Proofs.Tryd
theorem build_g0 : abuild prog 38 #[] = some (.agg #[.int .i64 0, .int .i64 0, .slice none 0 0, .int .i64 0, .int .i64 0]) := by simp [abuild, wt, aplaces, Instr.fill, Value.cells]
theorem grid_nil {h : Heap} : ACalls prog 18 #[.pointer none] h (fun y h' => y = .agg #[.int .i64 0, .int .i64 0, .slice none 0 0, .int .i64 0, .int .i64 0] ∧ Keeps h h') := by
  refine acalls_of_W' func18 rfl (by kernel_rfl) (by kernel_rfl) (by simp [ntmps18]) ?_
  intro H
  have N1 := Keeps.new H 38 [.int .i64 0, .int .i64 0, .slice none 0 0, .int .i64 0, .int .i64 0]
  have V1 := Var.new (e := 38) H (cs := [.int .i64 0, .int .i64 0, .slice none 0 0, .int .i64 0, .int .i64 0])
  obtain ⟨h2, e2, V2, C2, z2⟩ := V1.store (P := prog) (t := 38) (v := .agg #[.int .i64 0, .int .i64 0, .slice none 0 0, .int .i64 0, .int .i64 0]) (i := 0) (Ch.wf N1) asz38 (by simp [Value.cells]) (by simp [Value.cells, one])
  simp only [Value.cells, over_all (xs := [.int .i64 0, .int .i64 0, .slice none 0 0, .int .i64 0, .int .i64 0]) (vs := [.int .i64 0, .int .i64 0, .slice none 0 0, .int .i64 0, .int .i64 0]) rfl] at V2
  have UA := V2.loadA (P := prog) (t := 38) underlying38 rfl asz38
  simp only [wk, wt, wl, ↓reduceIte, Nat.reduceEqDiff, Nat.reduceAdd, Nat.zero_add, not_false_eq_true, not_true_eq_false, nilT, build_g0, e2, UA]
  exact N1.step C2 fun y e => by omega
theorem boxV_cell {h : Heap} {v : Value} {a : Int} {w : Bool} (o : one v = true) : boxV prog h 50 (.agg #[v, .int .i64 a, .bool w]) = some (.pointer (some ⟨h.size, 0, none⟩), h.new 50 [v, .int .i64 a, .bool w]) := by
  simp [boxV, asz50, Value.cells, one_cells o, o, one_int, one_bool]
theorem boxV_grid {h : Heap} {v : Value} {r c y x : Int} (o : one v = true) : boxV prog h 38 (.agg #[.int .i64 r, .int .i64 c, v, .int .i64 y, .int .i64 x]) = some (.pointer (some ⟨h.size, 0, none⟩), h.new 38 [.int .i64 r, .int .i64 c, v, .int .i64 y, .int .i64 x]) := by
  simp [boxV, asz38, Value.cells, one_cells o, o, one_int]
theorem loadCell {h : Heap} {b : Nat} {v : Value} {a : Int} {w : Bool} (V : Var h b [v, .int .i64 a, .bool w]) : aload prog h 44 ⟨b, 0, none⟩ = some v ∧ aload prog h 3 ⟨b, 1, none⟩ = some (.int .i64 a) ∧ aload prog h 4 ⟨b, 2, none⟩ = some (.bool w) ∧ aload prog h 50 ⟨b, 0, none⟩ = some (.agg #[v, .int .i64 a, .bool w]) :=
  ⟨V.load1 (i := 0) underlying44 rfl, V.load1 (i := 1) underlying3 rfl, V.load1 (i := 2) underlying4 rfl, V.loadA underlying50 rfl asz50⟩
theorem loadGrid {h : Heap} {b : Nat} {v : Value} {r c y x : Int} (V : Var h b [.int .i64 r, .int .i64 c, v, .int .i64 y, .int .i64 x]) : aload prog h 3 ⟨b, 0, none⟩ = some (.int .i64 r) ∧ aload prog h 3 ⟨b, 1, none⟩ = some (.int .i64 c) ∧ aload prog h 36 ⟨b, 2, none⟩ = some v ∧ aload prog h 3 ⟨b, 3, none⟩ = some (.int .i64 y) ∧ aload prog h 3 ⟨b, 4, none⟩ = some (.int .i64 x) ∧ aload prog h 38 ⟨b, 0, none⟩ = some (.agg #[.int .i64 r, .int .i64 c, v, .int .i64 y, .int .i64 x]) :=
  ⟨V.load1 (i := 0) underlying3 rfl, V.load1 (i := 1) underlying3 rfl, V.load1 (i := 2) underlying36 rfl, V.load1 (i := 3) underlying3 rfl, V.load1 (i := 4) underlying3 rfl, V.loadA underlying38 rfl asz38⟩
/-- A cell of a grid, as it is read. -/
theorem GD.at {h : Heap} {Gs : Nat → Prop} {cv : Value} {l : List Cel} {i : Nat} {c : Cel} (G : GD h Gs cv l) (hi : l[i]? = some c) : ∃ tv, RdI prog h .i32 tv c.tx ∧ aload prog h 50 (eltA cv 3 i) = some (.agg #[tv, .int .i64 c.ar, .bool c.wd]) ∧
    aload prog h 44 ⟨(eltA cv 3 i).block, (eltA cv 3 i).off + 0, none⟩ = some tv ∧ aload prog h 3 ⟨(eltA cv 3 i).block, (eltA cv 3 i).off + 1, none⟩ = some (.int .i64 c.ar) ∧ aload prog h 4 ⟨(eltA cv 3 i).block, (eltA cv 3 i).off + 2, none⟩ = some (.bool c.wd) ∧
    aindexAddr prog 36 cv (.int .i64 (i : Int)) = some (.pointer (some (eltA cv 3 i))) ∧ aload prog h 44 (eltA cv 3 i) = some tv := by
  obtain ⟨ps, e, R, F, A⟩ := G
  subst e
  rw [List.getElem?_map, Option.map_eq_some_iff] at hi
  obtain ⟨p, hp, rfl⟩ := hi
  have hm := List.mem_of_getElem? hp
  have hlt := (List.getElem?_eq_some_iff.1 hp).1
  have I := Rd.index R underlying36 asz50 (q := .i64) (i := (i : Int)) (by omega) (by omega)
  simp only [Int.toNat_natCast] at I
  have h0 := R.fld cC_len (t := 44) underlying44 rfl hp (j := 0) (by decide)
  exact ⟨p.1, (A p hm).1, R.agg cC_len underlying50 rfl asz50 hp, h0, R.fld cC_len underlying3 rfl hp (by decide), R.fld cC_len underlying4 rfl hp (by decide), I, by rw [eltA_eta] at h0; exact h0⟩
theorem GD.len {h : Heap} {Gs : Nat → Prop} {cv : Value} {l : List Cel} (G : GD h Gs cv l) : abuiltin prog .len #[36] #[cv] = some (.int .i64 l.length) := by
  obtain ⟨ps, e, R, F, A⟩ := G
  subst e
  rw [List.length_map]; exact R.len underlying36
theorem GD.one {h : Heap} {Gs : Nat → Prop} {cv : Value} {l : List Cel} (G : GD h Gs cv l) : one cv = true := by
  obtain ⟨ps, e, R, F, A⟩ := G
  exact Rd.one R
theorem cell_ok {h : Heap} {ta tb : Value} {c : Cel} (R1 : RdI prog h .i32 ta c.tx) (R2 : RdI prog h .i32 tb c.tx) (hl : c.tx.length ≤ 1000) :
    ACalls prog 27 #[.agg #[ta, .int .i64 c.ar, .bool c.wd], .agg #[tb, .int .i64 c.ar, .bool c.wd]] h (fun y h' => y = .bool true ∧ Keeps h h') := by
  refine acalls_of_W' func27 rfl (by kernel_rfl) (by kernel_rfl) (by simp [ntmps27]) ?_
  intro H
  have o1 : one ta = true := R1.one
  have o2 : one tb = true := R2.one
  have N1 := Keeps.new H 50 [ta, .int .i64 c.ar, .bool c.wd]
  have V1 := Var.new (e := 50) H (cs := [ta, .int .i64 c.ar, .bool c.wd])
  have hz1 : (h.new 50 [ta, .int .i64 c.ar, .bool c.wd]).size = h.size + 1 := rfl
  have N2 := Keeps.new (Ch.wf N1) 50 [tb, .int .i64 c.ar, .bool c.wd]
  have V2 := Var.new (e := 50) (Ch.wf N1) (cs := [tb, .int .i64 c.ar, .bool c.wd])
  rw [hz1] at V2
  have U2 := Keeps.var (Ch.wf N1) N2 V1
  have K2 := N1.trans N2
  simp only [wk, wt, wl, ↓reduceIte, Nat.reduceEqDiff, Nat.reduceAdd, Nat.zero_add, not_false_eq_true, not_true_eq_false, aeff_box, boxV_cell o1, boxV_cell o2, new_size]
  generalize (h.new 50 [ta, .int .i64 c.ar, .bool c.wd]).new 50 [tb, .int .i64 c.ar, .bool c.wd] = h2 at *
  obtain ⟨a0, a1, a2, _⟩ := loadCell U2
  obtain ⟨b0, b1, b2, _⟩ := loadCell V2
  have d1 : decide (c.ar = c.ar) = true := decide_eq_true rfl
  have d2 : abin prog .eql 4 (.bool c.wd) (.bool c.wd) = some (.bool true) := by cases c.wd <;> simp [abin, aeq, underlying4]
  simp only [wk, wt, wl, ↓reduceIte, Nat.reduceEqDiff, Nat.reduceAdd, Nat.zero_add, not_false_eq_true, not_true_eq_false, a0, a1, a2, b0, b1, b2, d1, d2]
  refine (runes_ok (R1.keeps K2) (R2.keeps K2) (by omega)).use_pure ?_
  have d3 : decide (c.tx = c.tx) = true := decide_eq_true rfl
  simp only [wk, wt, wl, ↓reduceIte, Nat.reduceEqDiff, Nat.reduceAdd, Nat.zero_add, not_false_eq_true, not_true_eq_false, d3]
  exact K2
theorem same_ok {h : Heap} {G1 G2 : Nat → Prop} {cv dv : Value} {X Y : TX} (A : GD h G1 cv X.cells) (B : GD h G2 dv Y.cells) (e1 : Y.rows = X.rows) (e2 : Y.cols = X.cols) (e3 : Y.row = X.row) (e4 : Y.col = X.col) (e5 : Y.cells = X.cells) (hl : X.cells.length ≤ 500000) (ht : ∀ c, c ∈ X.cells → c.tx.length ≤ 1000) :
    ACalls prog 17 #[gV X cv, gV Y dv] h (fun y h' => y = .bool true ∧ Keeps h h') := by
  refine acalls_of_W' func17 rfl (by kernel_rfl) (by kernel_rfl) (by simp [ntmps17]) ?_
  intro H
  have oc := A.one
  have od := B.one
  rw [e5] at B
  simp only [gV, e1, e2, e3, e4]
  have N1 := Keeps.new H 38 [.int .i64 X.rows, .int .i64 X.cols, cv, .int .i64 X.row, .int .i64 X.col]
  have V1 := Var.new (e := 38) H (cs := [.int .i64 X.rows, .int .i64 X.cols, cv, .int .i64 X.row, .int .i64 X.col])
  have hz1 : (h.new 38 [.int .i64 X.rows, .int .i64 X.cols, cv, .int .i64 X.row, .int .i64 X.col]).size = h.size + 1 := rfl
  have N2 := Keeps.new (Ch.wf N1) 38 [.int .i64 X.rows, .int .i64 X.cols, dv, .int .i64 X.row, .int .i64 X.col]
  have V2 := Var.new (e := 38) (Ch.wf N1) (cs := [.int .i64 X.rows, .int .i64 X.cols, dv, .int .i64 X.row, .int .i64 X.col])
  rw [hz1] at V2
  have U2 := Keeps.var (Ch.wf N1) N2 V1
  have K2 := N1.trans N2
  simp only [wk, wt, wl, ↓reduceIte, Nat.reduceEqDiff, Nat.reduceAdd, Nat.zero_add, not_false_eq_true, not_true_eq_false, aeff_box, boxV_grid oc, boxV_grid od, new_size]
  generalize (h.new 38 [.int .i64 X.rows, .int .i64 X.cols, cv, .int .i64 X.row, .int .i64 X.col]).new 38 [.int .i64 X.rows, .int .i64 X.cols, dv, .int .i64 X.row, .int .i64 X.col] = h2 at *
  obtain ⟨a0, a1, a2, a3, a4, _⟩ := loadGrid U2
  obtain ⟨b0, b1, b2, b3, b4, _⟩ := loadGrid V2
  have dd : ∀ z : Int, decide (¬ z = z) = false := fun z => decide_eq_false fun e => e rfl
  simp only [wk, wt, wl, ↓reduceIte, Nat.reduceEqDiff, Nat.reduceAdd, Nat.zero_add, not_false_eq_true, not_true_eq_false, a0, a1, a2, a3, a4, b0, b1, b2, b3, b4, dd, A.len, B.len]
  refine W_loop (fun tm hh => tm 2 = pt h.size ∧ tm 3 = pt (h.size + 1) ∧ Keeps h hh ∧ Keeps h2 hh ∧ ∃ i : Nat, tm 5 = .int .i64 (i : Int) ∧ i ≤ X.cells.length) (fun tm _ => (X.cells.length - intOf (tm 5)).toNat) ⟨(by first | rfl | (simp only [wk, wt, wl, ↓reduceIte, Nat.reduceEqDiff, Nat.reduceAdd, Nat.zero_add, not_false_eq_true, not_true_eq_false]; done) | (simp only [wk, wt, wl, ↓reduceIte, Nat.reduceEqDiff, Nat.reduceAdd, Nat.zero_add, not_false_eq_true, not_true_eq_false]; rfl)), (by first | rfl | (simp only [wk, wt, wl, ↓reduceIte, Nat.reduceEqDiff, Nat.reduceAdd, Nat.zero_add, not_false_eq_true, not_true_eq_false]; done) | (simp only [wk, wt, wl, ↓reduceIte, Nat.reduceEqDiff, Nat.reduceAdd, Nat.zero_add, not_false_eq_true, not_true_eq_false]; rfl)), K2, Keeps.refl (Ch.wf K2), 0, (by first | rfl | (simp only [wk, wt, wl, ↓reduceIte, Nat.reduceEqDiff, Nat.reduceAdd, Nat.zero_add, not_false_eq_true, not_true_eq_false]; done) | (simp only [wk, wt, wl, ↓reduceIte, Nat.reduceEqDiff, Nat.reduceAdd, Nat.zero_add, not_false_eq_true, not_true_eq_false]; rfl)), by omega⟩ ?_
  rintro tm hh ⟨t2, t3, K, KK, i, t5, hi⟩
  obtain ⟨_, _, a2', _⟩ := loadGrid (Keeps.var (Ch.wf K2) KK U2)
  obtain ⟨_, _, b2', _⟩ := loadGrid (Keeps.var (Ch.wf K2) KK V2)
  simp only [wk, wt, wl, ↓reduceIte, Nat.reduceEqDiff, Nat.reduceAdd, Nat.zero_add, not_false_eq_true, not_true_eq_false, t2, t3, t5, pt, a2', A.len]
  refine condK_dec (fun hd => ?_) (fun hd => ?_)
  · have hi1 : i < X.cells.length := by omega
    obtain ⟨c, hc⟩ : ∃ c, X.cells[i]? = some c := ⟨_, List.getElem?_eq_getElem hi1⟩
    obtain ⟨ta, RA, la, _, _, _, IA, _⟩ := (A.keeps K).at hc
    obtain ⟨tb, RB, lb, _, _, _, IB, _⟩ := (B.keeps K).at hc
    simp only [wk, wt, wl, ↓reduceIte, Nat.reduceEqDiff, Nat.reduceAdd, Nat.zero_add, not_false_eq_true, not_true_eq_false, t2, t3, t5, pt]
    refine adraw_order [(0, false), (1, false), (2, false), (3, false), (4, false), (5, false), (6, false), (7, false), (8, false), (9, false), (10, false), (11, false)] mixed (by kernel_rfl) (by kernel_rfl) (by kernel_rfl) (by with_reducible repeat (first | exact PF_retK | refine PF_thenK ?_ | refine PF_blockK ?_)) ?_
    simp only [wk, wt, wl, ↓reduceIte, Nat.reduceEqDiff, Nat.reduceAdd, Nat.zero_add, not_false_eq_true, not_true_eq_false, dK_t, t2, t3, t5, pt, a2', b2', IA, IB, la, lb]
    refine (cell_ok RA RB (ht c (List.mem_of_getElem? hc))).use ?_
    rintro _ h3 ⟨rfl, K3⟩
    try refine ⟨fun _ => K3.reads (Ch.wf K), ?_⟩
    simp (disch := omega) only [wk, wt, wl, ↓reduceIte, Nat.reduceEqDiff, Nat.reduceAdd, Nat.zero_add, not_false_eq_true, not_true_eq_false, dK_t, t2, t3, t5, pt, Bool.not_true, IntWalk.i64_in, intOf_int]
    exact ⟨⟨K.trans K3, KK.trans K3, i + 1, by simp, by omega⟩, by omega⟩
  · simp only [wk, wt, wl, ↓reduceIte, Nat.reduceEqDiff, Nat.reduceAdd, Nat.zero_add, not_false_eq_true, not_true_eq_false]
    exact K
end Go.Proofs.YtefpalmihdbmiaaDoor.Am
end
section
/- Right grids: contracts of the document's letters and Right, by walks. -/
set_option linter.unusedSimpArgs false
set_option linter.unusedVariables false
set_option maxHeartbeats 4000000
set_option maxRecDepth 20000
namespace Go.Proofs.YtefpalmihdbmiaaDoor.Am
open Go Go.RowKit Go.Proofs.Tryd
/-- A cell has one rune of its width that is shown as it is, and few of none behind it. -/
def LetB (c : Cel) : Prop := ∃ (r : Int) (m : List Int), c.tx = r :: m ∧ isR r ∧ showL r = [r] ∧ widthZ r ≠ 0 ∧ c.wd = decide (widthZ r = 2) ∧ m.length ≤ 2 ∧ ∀ y, y ∈ m → widthZ y = 0
def CellOk (c : Cel) : Prop := (c.ar = 0 ∨ c.ar = 1) ∧ (c.tx = [] ∨ LetB c)
/-- A terminal's cells are right. -/
structure Rt (X : TX) : Prop where
  cell : ∀ c, c ∈ X.cells → CellOk c
  adj : ∀ (i : Nat) (c d : Cel), X.cells[i + 1]? = some c → c.tx = [] → X.cells[i]? = some d → d.ar = c.ar
  at_ : X.attr = 0 ∨ X.attr = 1
theorem CellOk.len {c : Cel} (C : CellOk c) : c.tx.length ≤ 1000 := by
  rcases C.2 with e | ⟨r, m, e, _, _, _, _, h, _⟩
  · rw [e]; decide
  · rw [e, List.length_cons]; omega
theorem Rt.len {X : TX} (R : Rt X) : ∀ c, c ∈ X.cells → c.tx.length ≤ 1000 := fun c hc => (R.cell c hc).len
theorem letters_ok {h : Heap} {ta : Value} {c : Cel} (R : RdI prog h .i32 ta c.tx) (L : LetB c) :
    ACalls prog 39 #[.agg #[ta, .int .i64 c.ar, .bool c.wd]] h (fun y h' => y = .bool true ∧ Keeps h h') := by
  refine acalls_of_W' func39 rfl (by kernel_rfl) (by kernel_rfl) (by simp [ntmps39]) ?_
  intro H
  obtain ⟨r, m, e, hr, hs, hw, hwd, hm, hz⟩ := L
  have o1 : one ta = true := R.one
  have N1 := Keeps.new H 50 [ta, .int .i64 c.ar, .bool c.wd]
  have V1 := Var.new (e := 50) H (cs := [ta, .int .i64 c.ar, .bool c.wd])
  have R1 := R.keeps N1
  have hz1 : (h.new 50 [ta, .int .i64 c.ar, .bool c.wd]).size = h.size + 1 := rfl
  have hl : c.tx.length = m.length + 1 := by rw [e]; rfl
  have IX := R1.index underlying44 asz21 (q := .i64) (i := (0 : Int)) (by omega) (by omega)
  have LX := R1.at (i := 0) (t := 21) underlying21 rfl (by omega)
  have hx0 : c.tx.getD 0 0 = r := by rw [e]; rfl
  rw [hx0] at LX
  simp only [show (0 : Int).toNat = 0 from rfl] at IX
  obtain ⟨a0, a1, a2, _⟩ := loadCell V1
  simp only [wk, wt, wl, ↓reduceIte, Nat.reduceEqDiff, Nat.reduceAdd, Nat.zero_add, not_false_eq_true, not_true_eq_false, aeff_box, boxV_cell o1, new_size]
  generalize h.new 50 [ta, .int .i64 c.ar, .bool c.wd] = h1 at *
  simp only [wk, wt, wl, ↓reduceIte, Nat.reduceEqDiff, Nat.reduceAdd, Nat.zero_add, not_false_eq_true, not_true_eq_false, a0, IX, LX]
  refine refWidth_ok.use_pure ?_
  have d1 : abin prog .neq 4 (.bool (decide (widthZ r = 2))) (.bool c.wd) = some (.bool false) := by rw [hwd]; cases decide (widthZ r = 2) <;> simp [abin, aeq, underlying4]
  have d2 : decide (widthZ r = 0) = false := decide_eq_false hw
  have d3 : decide ((3 : Int) < (c.tx.length : Int)) = false := decide_eq_false (by omega)
  have LL := R1.len underlying44
  simp only [wk, wt, wl, ↓reduceIte, Nat.reduceEqDiff, Nat.reduceAdd, Nat.zero_add, not_false_eq_true, not_true_eq_false, a0, a2, d1, d2, LL, d3]
  refine (refShow_ok hr).use_pure ?_
  rw [hs]
  have N2 := Keeps.new (Ch.wf N1) 21 ([r].map (Value.int .i32))
  have R2 : RdI prog (h1.new 21 ([r].map (Value.int .i32))) .i32 (.slice (some ⟨h1.size, 0, none⟩) [r].length ([r].length + 1)) [r] := rdI_new (Ch.wf N1)
  have LL2 := R2.len underlying44
  have IX2 := R2.index underlying44 asz21 (q := .i64) (i := (0 : Int)) (by omega) (by simp)
  have LX2 := R2.at (i := 0) (t := 21) underlying21 rfl (by simp)
  have hx2 : [r].getD 0 0 = r := rfl
  rw [hx2] at LX2
  simp only [show (0 : Int).toNat = 0 from rfl] at IX2
  have V2 := Keeps.var (Ch.wf N1) N2 V1
  have d4 : decide (¬ (([r].length : Nat) : Int) = 1) = false := decide_eq_false (by simp)
  have d5 : decide (¬ r = r) = false := decide_eq_false (by simp)
  have K2 := N1.trans N2
  generalize h1.new 21 ([r].map (Value.int .i32)) = h2 at *
  simp only [wk, wt, wl, ↓reduceIte, Nat.reduceEqDiff, Nat.reduceAdd, Nat.zero_add, not_false_eq_true, not_true_eq_false, LL2, d4, IX2, LX2, d5]
  refine W_loop (fun tm hh => hh = h2 ∧ tm 1 = pt h.size ∧ ∃ i : Nat, tm 6 = .int .i64 (i : Int) ∧ 1 ≤ i ∧ i ≤ c.tx.length) (fun tm _ => (c.tx.length - intOf (tm 6)).toNat) ⟨rfl, (by first | rfl | (simp only [wk, wt, wl, ↓reduceIte, Nat.reduceEqDiff, Nat.reduceAdd, Nat.zero_add, not_false_eq_true, not_true_eq_false]; done) | (simp only [wk, wt, wl, ↓reduceIte, Nat.reduceEqDiff, Nat.reduceAdd, Nat.zero_add, not_false_eq_true, not_true_eq_false]; rfl)), 1, (by first | rfl | (simp only [wk, wt, wl, ↓reduceIte, Nat.reduceEqDiff, Nat.reduceAdd, Nat.zero_add, not_false_eq_true, not_true_eq_false]; done) | (simp only [wk, wt, wl, ↓reduceIte, Nat.reduceEqDiff, Nat.reduceAdd, Nat.zero_add, not_false_eq_true, not_true_eq_false]; rfl)), by omega, by omega⟩ ?_
  rintro tm hh ⟨rfl, t1, i, t6, h1i, hi⟩
  obtain ⟨a0', _⟩ := loadCell V2
  simp only [wk, wt, wl, ↓reduceIte, Nat.reduceEqDiff, Nat.reduceAdd, Nat.zero_add, not_false_eq_true, not_true_eq_false, t1, t6, pt, a0', (R.keeps K2).len underlying44]
  refine condK_dec (fun hd => ?_) (fun hd => ?_)
  · have hi1 : i < c.tx.length := by omega
    have IX3 := (R.keeps K2).index underlying44 asz21 (q := .i64) (i := (i : Int)) (by omega) (by omega)
    have LX3 := (R.keeps K2).at (i := i) (t := 21) underlying21 rfl hi1
    simp only [Int.toNat_natCast] at IX3
    have hx3 : widthZ (c.tx.getD i 0) = 0 := by
      rw [e]
      obtain ⟨j, rfl⟩ : ∃ j, i = j + 1 := ⟨i - 1, by omega⟩
      have hj : j < m.length := by omega
      have : (r :: m).getD (j + 1) 0 = m[j] := by simp [List.getD, List.getElem?_eq_getElem hj]
      rw [this]
      exact hz _ (List.getElem_mem hj)
    simp only [wk, wt, wl, ↓reduceIte, Nat.reduceEqDiff, Nat.reduceAdd, Nat.zero_add, not_false_eq_true, not_true_eq_false, t1, t6, pt, a0', IX3, LX3]
    refine refWidth_ok.use_pure ?_
    have d6 : decide (¬ widthZ (c.tx.getD i 0) = 0) = false := decide_eq_false fun h => h hx3
    simp (disch := omega) only [wk, wt, wl, ↓reduceIte, Nat.reduceEqDiff, Nat.reduceAdd, Nat.zero_add, not_false_eq_true, not_true_eq_false, t1, t6, pt, d6, IntWalk.i64_in, intOf_int]
    exact ⟨⟨i + 1, by simp, by omega, by omega⟩, by omega⟩
  · simp only [wk, wt, wl, ↓reduceIte, Nat.reduceEqDiff, Nat.reduceAdd, Nat.zero_add, not_false_eq_true, not_true_eq_false]
    exact K2
theorem right_ok {h : Heap} {Gs : Nat → Prop} {cv : Value} {X : TX} (G : GD h Gs cv X.cells) (I : Inv X) (Rx : Rt X) :
    ACalls prog 22 #[gV X cv] h (fun y h' => y = .bool true ∧ Keeps h h') := by
  refine acalls_of_W' func22 rfl (by kernel_rfl) (by kernel_rfl) (by simp [ntmps22]) ?_
  intro H
  have hr := I.r; have hc := I.c; have hrow := I.row; have hcol := I.col
  obtain ⟨_, _, _, hlen, hmul⟩ := I.rowA
  have oc := G.one
  have N1 := Keeps.new H 38 [.int .i64 X.rows, .int .i64 X.cols, cv, .int .i64 X.row, .int .i64 X.col]
  have V1 := Var.new (e := 38) H (cs := [.int .i64 X.rows, .int .i64 X.cols, cv, .int .i64 X.row, .int .i64 X.col])
  simp only [gV]
  simp only [wk, wt, wl, ↓reduceIte, Nat.reduceEqDiff, Nat.reduceAdd, Nat.zero_add, not_false_eq_true, not_true_eq_false, aeff_box, boxV_grid oc, new_size]
  have hz1 : (h.new 38 [.int .i64 X.rows, .int .i64 X.cols, cv, .int .i64 X.row, .int .i64 X.col]).size = h.size + 1 := rfl
  generalize h.new 38 [.int .i64 X.rows, .int .i64 X.cols, cv, .int .i64 X.row, .int .i64 X.col] = h1 at *
  obtain ⟨a0, a1, a2, a3, a4, _⟩ := loadGrid V1
  have wm : IntKind.i64.wrap (X.rows * X.cols) = X.cells.length := by rw [← I.n]; exact IntWalk.i64_in _ (by omega)
  have e1 : decide (X.rows < 2) = false := decide_eq_false (by omega)
  have e2 : decide (500 < X.rows) = false := decide_eq_false (by omega)
  have e3 : decide (X.cols < 2) = false := decide_eq_false (by omega)
  have e4 : decide (1000 < X.cols) = false := decide_eq_false (by omega)
  have e5 : decide (¬ (X.cells.length : Int) = (X.cells.length : Int)) = false := decide_eq_false fun e => e rfl
  have e6 : decide (X.row < 0) = false := decide_eq_false (by omega)
  have e7 : decide (X.rows ≤ X.row) = false := decide_eq_false (by omega)
  have e8 : decide (X.col < 0) = false := decide_eq_false (by omega)
  have e9 : decide (X.cols ≤ X.col) = false := decide_eq_false (by omega)
  simp only [wk, wt, wl, ↓reduceIte, Nat.reduceEqDiff, Nat.reduceAdd, Nat.zero_add, not_false_eq_true, not_true_eq_false, a0, a1, a2, a3, a4, G.len, wm, e1, e2, e3, e4, e5, e6, e7, e8, e9]
  refine W_loop (fun tm hh => tm 1 = pt h.size ∧ Keeps h hh ∧ Keeps h1 hh ∧ ∃ i : Nat, tm 3 = .int .i64 (i : Int) ∧ i ≤ X.cells.length) (fun tm _ => (X.cells.length - intOf (tm 3)).toNat) ⟨(by first | rfl | (simp only [wk, wt, wl, ↓reduceIte, Nat.reduceEqDiff, Nat.reduceAdd, Nat.zero_add, not_false_eq_true, not_true_eq_false]; done) | (simp only [wk, wt, wl, ↓reduceIte, Nat.reduceEqDiff, Nat.reduceAdd, Nat.zero_add, not_false_eq_true, not_true_eq_false]; rfl)), N1, Keeps.refl (Ch.wf N1), 0, (by first | rfl | (simp only [wk, wt, wl, ↓reduceIte, Nat.reduceEqDiff, Nat.reduceAdd, Nat.zero_add, not_false_eq_true, not_true_eq_false]; done) | (simp only [wk, wt, wl, ↓reduceIte, Nat.reduceEqDiff, Nat.reduceAdd, Nat.zero_add, not_false_eq_true, not_true_eq_false]; rfl)), by omega⟩ ?_
  rintro tm hh ⟨t1, K, KK, i, t3, hi⟩
  obtain ⟨_, b1, b2, _⟩ := loadGrid (Keeps.var (Ch.wf N1) KK V1)
  simp only [wk, wt, wl, ↓reduceIte, Nat.reduceEqDiff, Nat.reduceAdd, Nat.zero_add, not_false_eq_true, not_true_eq_false, t1, t3, pt, b2, G.len]
  refine condK_dec (fun hd => ?_) (fun hd => ?_)
  · have hi1 : i < X.cells.length := by omega
    obtain ⟨c, hc0⟩ : ∃ c, X.cells[i]? = some c := ⟨_, List.getElem?_eq_getElem hi1⟩
    obtain ⟨ta, RA, la, _, _, _, IA, _⟩ := (G.keeps K).at hc0
    have ck := Rx.cell c (List.mem_of_getElem? hc0)
    have oa : one ta = true := RA.one
    have al : abuild prog 50 #[] = some (.agg #[.slice none 0 0, .int .i64 0, .bool false]) := by simp [abuild, wt, aplaces, Instr.fill, Value.cells]
    have N2 := Keeps.new (Ch.wf K) 50 [.slice none 0 0, .int .i64 0, .bool false]
    have V2 := Var.new (e := 50) (Ch.wf K) (cs := [.slice none 0 0, .int .i64 0, .bool false])
    obtain ⟨h3, s3, V3, C3, z3⟩ := V2.store (P := prog) (t := 50) (v := .agg #[ta, .int .i64 c.ar, .bool c.wd]) (i := 0) (Ch.wf N2) asz50 (by simp [Value.cells, one_cells oa]) (by simp [Value.cells, one_cells oa, oa, one_int, one_bool])
    have hcs : (Value.agg #[ta, .int .i64 c.ar, .bool c.wd]).cells.toList = [ta, .int .i64 c.ar, .bool c.wd] := by simp [Value.cells, one_cells oa]
    rw [hcs, over_all (xs := [.slice none 0 0, .int .i64 0, .bool false]) (vs := [ta, .int .i64 c.ar, .bool c.wd]) rfl] at V3
    have K3 := K.trans (N2.step C3 fun y e => by omega)
    have KK3 := KK.trans (N2.step C3 fun y e => by omega)
    obtain ⟨c0, c1, c2, c3⟩ := loadCell V3
    obtain ⟨_, g1, g2, _⟩ := loadGrid (Keeps.var (Ch.wf N1) KK3 V1)
    have LT := (RA.keeps (N2.step C3 fun y e => by omega)).len underlying44
    have fin : ∀ {h' : Heap}, Keeps h3 h' → (Keeps h h' ∧ Keeps h1 h') := fun K' => ⟨K3.trans K', KK3.trans K'⟩
    have wi : IntKind.i64.wrap ((i : Int) + 1) = ((i + 1 : Nat) : Int) := by rw [IntWalk.i64_in _ (by omega)]; omega
    have hm : ∀ {t : TypeId} {k : IntKind} {y : Int}, y = X.cols → y ≠ 0 := fun e => by omega
    have hX0 : X.cols ≠ 0 := by omega
    have RM := abin_rem (P := prog) (t := 3) (k := .i64) (x := (i : Int)) (y := X.cols) hX0
    rw [Int.tmod_eq_emod_of_nonneg (by omega)] at RM
    have hmod := Int.emod_nonneg (i : Int) hX0
    have hmod2 := Int.emod_lt_of_pos (i : Int) (show 0 < X.cols by omega)
    have wr : IntKind.i64.wrap ((i : Int) % X.cols) = (i : Int) % X.cols := IntWalk.i64_in _ (by omega)
    have da : (decide (¬ c.ar = 0) = false) ∨ (decide (¬ c.ar = 0) = true ∧ decide (¬ c.ar = 1) = false) := by
      rcases ck.1 with e | e <;> rw [e] <;> decide
    by_cases ht : c.tx = []
    · have d2 : decide ((c.tx.length : Int) = 0) = true := decide_eq_true (by rw [ht]; rfl)
      have hw := I.nw i c hc0 ht
      obtain ⟨j, d, hj, hd0, hdw, hjm⟩ := I.emp i c hc0 ht
      have hadj := Rx.adj j c d (by rw [← hj]; exact hc0) ht hd0
      obtain ⟨td, RD, ld, _, ldar, ldwd, ID, _⟩ := (G.keeps K3).at hd0
      have d3 : decide ((i : Int) % X.cols = 0) = false := decide_eq_false hjm
      have wj : IntKind.i64.wrap ((i : Int) - 1) = (j : Int) := by rw [IntWalk.i64_in _ (by omega)]; omega
      have d4 : decide (¬ c.ar = c.ar) = false := decide_eq_false fun e => e rfl
      rw [hw] at c2
      rw [hdw] at ldwd
      rw [hadj] at ldar
      have go : ∀ Z : Prop, Z → Z := fun _ z => z
      rcases da with da | ⟨da, da2⟩
      · simp only [wk, wt, wl, ↓reduceIte, Nat.reduceEqDiff, Nat.reduceAdd, Nat.zero_add, not_false_eq_true, not_true_eq_false, t1, t3, pt, b2, IA, la, al, s3, c1, da, c0, LT, d2]
        refine adraw_order [(0, false), (1, false), (2, false), (3, false), (4, false), (5, false), (6, false), (7, false), (8, false), (9, false), (10, false), (11, false), (12, false), (13, false), (14, false), (15, false), (16, false), (17, false), (18, false), (19, false), (20, false), (21, false), (22, false), (23, false), (24, false), (25, false), (26, false), (27, false), (28, false), (29, false), (30, false)] mixed (by kernel_rfl) (by kernel_rfl) (by kernel_rfl) (by with_reducible repeat (first | exact PF_retK | refine PF_thenK ?_ | refine PF_blockK ?_)) ?_
        simp only [wk, wt, wl, ↓reduceIte, Nat.reduceEqDiff, Nat.reduceAdd, Nat.zero_add, not_false_eq_true, not_true_eq_false, dK_t, t1, t3, pt, c2, g1, RM, wr, d3, g2, wj, ID, ldwd, ldar, c1, d4, Bool.not_true, wi, intOf_int]
        exact ⟨⟨K3, KK3, i + 1, rfl, by omega⟩, by omega⟩
      · simp only [wk, wt, wl, ↓reduceIte, Nat.reduceEqDiff, Nat.reduceAdd, Nat.zero_add, not_false_eq_true, not_true_eq_false, t1, t3, pt, b2, IA, la, al, s3, c1, da, da2, c0, LT, d2]
        refine adraw_order [(0, false), (1, false), (2, false), (3, false), (4, false), (5, false), (6, false), (7, false), (8, false), (9, false), (10, false), (11, false), (12, false), (13, false), (14, false), (15, false), (16, false), (17, false), (18, false), (19, false), (20, false), (21, false), (22, false), (23, false), (24, false), (25, false), (26, false), (27, false), (28, false), (29, false), (30, false)] mixed (by kernel_rfl) (by kernel_rfl) (by kernel_rfl) (by with_reducible repeat (first | exact PF_retK | refine PF_thenK ?_ | refine PF_blockK ?_)) ?_
        simp only [wk, wt, wl, ↓reduceIte, Nat.reduceEqDiff, Nat.reduceAdd, Nat.zero_add, not_false_eq_true, not_true_eq_false, dK_t, t1, t3, pt, c2, g1, RM, wr, d3, g2, wj, ID, ldwd, ldar, c1, d4, Bool.not_true, wi, intOf_int]
        exact ⟨⟨K3, KK3, i + 1, rfl, by omega⟩, by omega⟩
    · have d2 : decide ((c.tx.length : Int) = 0) = false := decide_eq_false fun e => ht (List.eq_nil_of_length_eq_zero (by omega))
      have LB : LetB c := ck.2.resolve_left ht
      have RA3 := RA.keeps (N2.step C3 fun y e => by omega : Keeps hh h3)
      have wc : IntKind.i64.wrap (X.cols - 1) = X.cols - 1 := IntWalk.i64_in _ (by omega)
      have LOK := letters_ok RA3 LB
      cases hw : c.wd with
      | true =>
        rw [hw] at LOK
        obtain ⟨d, hd0, hdt⟩ := I.wid i c hc0 hw
        obtain ⟨j, d', hj, hd1, _, hjm⟩ := I.emp (i + 1) d hd0 hdt
        obtain ⟨td, RD, ld, ldt, _, _, ID, _⟩ := (G.keeps K3).at hd0
        have LD := RD.len underlying44
        have d3 : decide ((i : Int) % X.cols = X.cols - 1) = false := decide_eq_false fun e => hjm (by
          rw [show ((i + 1 : Nat) : Int) = (i : Int) + 1 by omega, Int.add_emod, e, Int.emod_eq_of_lt (a := 1) (by omega) (by omega), show X.cols - 1 + 1 = X.cols by omega, Int.emod_self])
        have d4 : decide ((0 : Int) < (d.tx.length : Int)) = false := decide_eq_false (by rw [hdt]; decide)
        rcases da with da | ⟨da, da2⟩
        · simp only [wk, wt, wl, ↓reduceIte, Nat.reduceEqDiff, Nat.reduceAdd, Nat.zero_add, not_false_eq_true, not_true_eq_false, t1, t3, pt, b2, IA, la, al, s3, c1, da, c0, LT, d2]
          refine adraw_order [(0, false), (1, false), (2, false), (3, false), (4, false), (5, false), (6, false), (7, false), (8, false), (9, false), (10, false), (11, false), (12, false), (13, false), (14, false), (15, false), (16, false), (17, false), (18, false), (19, false), (20, false), (21, false), (22, false), (23, false), (24, false), (25, true), (26, false), (27, false)] mixed (by kernel_rfl) (by kernel_rfl) (by kernel_rfl) (by with_reducible repeat (first | exact PF_retK | refine PF_thenK ?_ | refine PF_blockK ?_)) ?_
          simp only [wk, wt, wl, ↓reduceIte, Nat.reduceEqDiff, Nat.reduceAdd, Nat.zero_add, not_false_eq_true, not_true_eq_false, dK_t, t1, t3, pt, c2, hw, g1, RM, wr, wc, d3, g2, wi, ID, ldt, LD, d4, c3]
          refine LOK.use ?_
          rintro _ h4 ⟨rfl, K4⟩
          try refine ⟨fun _ => K4.reads (Ch.wf K3), ?_⟩
          simp only [wk, wt, wl, ↓reduceIte, Nat.reduceEqDiff, Nat.reduceAdd, Nat.zero_add, not_false_eq_true, not_true_eq_false, dK_t, t1, t3, pt, Bool.not_true, wi, intOf_int]
          exact ⟨⟨K3.trans K4, KK3.trans K4, i + 1, rfl, by omega⟩, by omega⟩
        · simp only [wk, wt, wl, ↓reduceIte, Nat.reduceEqDiff, Nat.reduceAdd, Nat.zero_add, not_false_eq_true, not_true_eq_false, t1, t3, pt, b2, IA, la, al, s3, c1, da, da2, c0, LT, d2]
          refine adraw_order [(0, false), (1, false), (2, false), (3, false), (4, false), (5, false), (6, false), (7, false), (8, false), (9, false), (10, false), (11, false), (12, false), (13, false), (14, false), (15, false), (16, false), (17, false), (18, false), (19, false), (20, false), (21, false), (22, false), (23, false), (24, false), (25, true), (26, false), (27, false)] mixed (by kernel_rfl) (by kernel_rfl) (by kernel_rfl) (by with_reducible repeat (first | exact PF_retK | refine PF_thenK ?_ | refine PF_blockK ?_)) ?_
          simp only [wk, wt, wl, ↓reduceIte, Nat.reduceEqDiff, Nat.reduceAdd, Nat.zero_add, not_false_eq_true, not_true_eq_false, dK_t, t1, t3, pt, c2, hw, g1, RM, wr, wc, d3, g2, wi, ID, ldt, LD, d4, c3]
          refine LOK.use ?_
          rintro _ h4 ⟨rfl, K4⟩
          try refine ⟨fun _ => K4.reads (Ch.wf K3), ?_⟩
          simp only [wk, wt, wl, ↓reduceIte, Nat.reduceEqDiff, Nat.reduceAdd, Nat.zero_add, not_false_eq_true, not_true_eq_false, dK_t, t1, t3, pt, Bool.not_true, wi, intOf_int]
          exact ⟨⟨K3.trans K4, KK3.trans K4, i + 1, rfl, by omega⟩, by omega⟩
      | false =>
        rw [hw] at LOK
        rcases da with da | ⟨da, da2⟩
        · simp only [wk, wt, wl, ↓reduceIte, Nat.reduceEqDiff, Nat.reduceAdd, Nat.zero_add, not_false_eq_true, not_true_eq_false, t1, t3, pt, b2, IA, la, al, s3, c1, da, c0, LT, d2]
          refine adraw_order [(0, false), (1, false), (2, false), (3, false), (4, false), (5, false), (6, false), (7, false), (8, false), (9, false), (10, false), (11, false), (12, false), (13, false), (14, false), (15, false), (16, false), (17, false), (18, false), (19, false), (20, false), (21, false), (22, false), (23, false), (24, false), (25, true), (26, false), (27, false)] mixed (by kernel_rfl) (by kernel_rfl) (by kernel_rfl) (by with_reducible repeat (first | exact PF_retK | refine PF_thenK ?_ | refine PF_blockK ?_)) ?_
          simp only [wk, wt, wl, ↓reduceIte, Nat.reduceEqDiff, Nat.reduceAdd, Nat.zero_add, not_false_eq_true, not_true_eq_false, dK_t, t1, t3, pt, c2, hw, c3]
          refine LOK.use ?_
          rintro _ h4 ⟨rfl, K4⟩
          try refine ⟨fun _ => K4.reads (Ch.wf K3), ?_⟩
          simp only [wk, wt, wl, ↓reduceIte, Nat.reduceEqDiff, Nat.reduceAdd, Nat.zero_add, not_false_eq_true, not_true_eq_false, dK_t, t1, t3, pt, Bool.not_true, wi, intOf_int]
          exact ⟨⟨K3.trans K4, KK3.trans K4, i + 1, rfl, by omega⟩, by omega⟩
        · simp only [wk, wt, wl, ↓reduceIte, Nat.reduceEqDiff, Nat.reduceAdd, Nat.zero_add, not_false_eq_true, not_true_eq_false, t1, t3, pt, b2, IA, la, al, s3, c1, da, da2, c0, LT, d2]
          refine adraw_order [(0, false), (1, false), (2, false), (3, false), (4, false), (5, false), (6, false), (7, false), (8, false), (9, false), (10, false), (11, false), (12, false), (13, false), (14, false), (15, false), (16, false), (17, false), (18, false), (19, false), (20, false), (21, false), (22, false), (23, false), (24, false), (25, true), (26, false), (27, false)] mixed (by kernel_rfl) (by kernel_rfl) (by kernel_rfl) (by with_reducible repeat (first | exact PF_retK | refine PF_thenK ?_ | refine PF_blockK ?_)) ?_
          simp only [wk, wt, wl, ↓reduceIte, Nat.reduceEqDiff, Nat.reduceAdd, Nat.zero_add, not_false_eq_true, not_true_eq_false, dK_t, t1, t3, pt, c2, hw, c3]
          refine LOK.use ?_
          rintro _ h4 ⟨rfl, K4⟩
          try refine ⟨fun _ => K4.reads (Ch.wf K3), ?_⟩
          simp only [wk, wt, wl, ↓reduceIte, Nat.reduceEqDiff, Nat.reduceAdd, Nat.zero_add, not_false_eq_true, not_true_eq_false, dK_t, t1, t3, pt, Bool.not_true, wi, intOf_int]
          exact ⟨⟨K3.trans K4, KK3.trans K4, i + 1, rfl, by omega⟩, by omega⟩
  · simp only [wk, wt, wl, ↓reduceIte, Nat.reduceEqDiff, Nat.reduceAdd, Nat.zero_add, not_false_eq_true, not_true_eq_false]
    exact K
end Go.Proofs.YtefpalmihdbmiaaDoor.Am
end
section
/- A terminal in plain terms: its cells stay right, whatever is written; no program in sight. -/
set_option linter.unusedSimpArgs false
set_option linter.unusedVariables false
set_option maxHeartbeats 4000000
namespace Go.Proofs.YtefpalmihdbmiaaDoor.Am
open Go Go.RowKit Go.Proofs.Tryd
theorem setB_or {l : List Cel} {f t i : Nat} {c : Cel} (h : (setB l f t)[i]? = some c) : c = bl 0 ∨ l[i]? = some c := by
  rw [setB_at, Option.map_eq_some_iff] at h
  obtain ⟨c0, h0, rfl⟩ := h
  split
  · exact .inl rfl
  · exact .inr h0
theorem wipeL_or {l : List Cel} {f t i : Nat} {c : Cel} (h : (wipeL l f t)[i]? = some c) : c = bl 0 ∨ l[i]? = some c := by
  unfold wipeL at h
  split at h
  · exact setB_or h
  · exact .inr h
theorem ok_bl : CellOk (bl 0) := ⟨.inl rfl, .inr ⟨32, [], rfl, by simp [isR], by decide, by decide, by decide, by decide, fun y hy => by cases hy⟩⟩
theorem rt_same {X Y : TX} (R : Rt X) (h1 : Y.cells = X.cells) (h2 : Y.attr = 0 ∨ Y.attr = 1) : Rt Y := ⟨by rw [h1]; exact R.cell, by rw [h1]; exact R.adj, h2⟩
theorem rt_wipe {X : TX} (R : Rt X) (I : Inv X) {F T : Nat} (hT : T ≤ X.cells.length) : Rt { X with cells := wipeL X.cells F T } := by
  have G := I.gi.wipe (f := F) (t := T) hT
  refine ⟨fun c hc => ?_, fun i c d h1 h2 h3 => ?_, R.at_⟩
  · obtain ⟨i, hi⟩ := List.getElem?_of_mem hc
    rcases wipeL_or hi with rfl | h
    · exact ok_bl
    · exact R.cell c (List.mem_of_getElem? h)
  · obtain ⟨j, e, hj, he, hw, _⟩ := G.emp _ _ h1 h2
    obtain rfl : j = i := by omega
    rw [show ({ X with cells := wipeL X.cells F T } : TX).cells = wipeL X.cells F T from rfl] at h1 h3
    rw [h3] at he; cases he
    rcases wipeL_or h1 with rfl | h1
    · exact absurd h2 bl_tx
    · rcases wipeL_or h3 with rfl | h3
      · cases hw
      · exact R.adj _ _ _ h1 h2 h3
theorem rt_put {X : TX} (R : Rt X) (I : Inv X) {r : Int} (hr : isR r) : Rt (putX X r) := by
  have I' := inv_put I r
  by_cases hs : showL r ≠ [r]
  · have e : putX X r = { X with last := none } := by unfold putX; rw [if_pos hs]
    rw [e]; exact rt_same R rfl R.at_
  · have hs' : showL r = [r] := Decidable.byContradiction hs
    by_cases hw : widthZ r = 0
    · cases hl : X.last with
      | none =>
        have e : putX X r = X := by unfold putX; rw [if_neg hs, if_pos hw, hl]
        rw [e]; exact R
      | some i =>
        obtain ⟨c, hc, hx⟩ := I.last i hl
        have hi := (List.getElem?_eq_some_iff.1 hc).1
        by_cases h3 : c.tx.length ≤ 2
        · have e : putX X r = { X with cells := X.cells.set i { c with tx := c.tx ++ [r] } } := by unfold putX; rw [if_neg hs, if_pos hw, hl]; simp only [getD_at hc]; rw [if_pos h3]
          rw [e]
          have ck := R.cell c (List.mem_of_getElem? hc)
          have LB : LetB c := ck.2.resolve_left hx
          refine ⟨fun d hd => ?_, fun k d d2 h1 h2 h4 => ?_, R.at_⟩
          · rcases List.mem_or_eq_of_mem_set hd with hd | rfl
            · exact R.cell d hd
            · refine ⟨ck.1, .inr ?_⟩
              obtain ⟨r0, m, e1, e2, e3, e4, e5, e6, e7⟩ := LB
              rw [e1, List.length_cons] at h3
              refine ⟨r0, m ++ [r], by simp [e1], e2, e3, e4, e5, by simp; omega, fun y hy => ?_⟩
              rcases List.mem_append.1 hy with hy | hy
              · exact e7 y hy
              · rw [List.mem_singleton.1 hy]; exact hw
          · rw [show ({ X with cells := X.cells.set i { c with tx := c.tx ++ [r] } } : TX).cells = X.cells.set i { c with tx := c.tx ++ [r] } from rfl] at h1 h4
            rw [List.getElem?_set] at h1 h4
            by_cases e1 : i = k + 1
            · rw [if_pos e1] at h1
              split at h1
              · cases h1; simp at h2
              · exact absurd hi (by assumption)
            · rw [if_neg e1] at h1
              by_cases e2 : i = k
              · subst e2
                rw [if_pos rfl, if_pos hi] at h4; cases h4
                exact R.adj _ _ c h1 h2 hc
              · rw [if_neg e2] at h4
                exact R.adj _ _ _ h1 h2 h4
        · have e : putX X r = X := by unfold putX; rw [if_neg hs, if_pos hw, hl]; simp only [getD_at hc]; rw [if_neg h3]
          rw [e]; exact R
    · have e : putX X r = putAt X r (widthZ r) := by unfold putX; rw [if_neg hs, if_neg hw]
      rw [e] at I' ⊢
      have new : CellOk ⟨[r], X.attr, decide (widthZ r = 2)⟩ := ⟨R.at_, .inr ⟨r, [], rfl, hr, hs', hw, rfl, by decide, fun y hy => by cases hy⟩⟩
      have emp : CellOk ⟨[], X.attr, false⟩ := ⟨R.at_, .inl rfl⟩
      obtain ⟨i, hi⟩ : ∃ i, (X.row * X.cols + imin X.col (X.cols - widthZ r)).toNat = i := ⟨_, rfl⟩
      have hcells : (putAt X r (widthZ r)).cells = if widthZ r = 2 then ((wipeL X.cells i (i + (widthZ r).toNat)).set i ⟨[r], X.attr, decide (widthZ r = 2)⟩).set (i + 1) ⟨[], X.attr, false⟩ else (wipeL X.cells i (i + (widthZ r).toNat)).set i ⟨[r], X.attr, decide (widthZ r = 2)⟩ := by
        simp only [putAt, hi]
      have get : ∀ (k : Nat) (c : Cel), (putAt X r (widthZ r)).cells[k]? = some c → (widthZ r = 2 ∧ k = i + 1 ∧ c = ⟨[], X.attr, false⟩) ∨ (k = i ∧ c = ⟨[r], X.attr, decide (widthZ r = 2)⟩) ∨ ((widthZ r = 2 → k ≠ i + 1) ∧ k ≠ i ∧ (c = bl 0 ∨ X.cells[k]? = some c)) := by
        intro k c h
        rw [hcells] at h
        split at h
        · rename_i h2
          rw [List.getElem?_set] at h
          split at h
          · rename_i e1
            split at h
            · cases h; exact .inl ⟨h2, e1.symm, rfl⟩
            · cases h
          · rename_i e1
            rw [List.getElem?_set] at h
            split at h
            · rename_i e2
              split at h
              · cases h; exact .inr (.inl ⟨e2.symm, rfl⟩)
              · cases h
            · rename_i e2
              exact .inr (.inr ⟨fun _ e => e1 e.symm, fun e => e2 e.symm, wipeL_or h⟩)
        · rename_i h2
          rw [List.getElem?_set] at h
          split at h
          · rename_i e2
            split at h
            · cases h; exact .inr (.inl ⟨e2.symm, rfl⟩)
            · cases h
          · rename_i e2
            exact .inr (.inr ⟨fun e => absurd e h2, fun e => e2 e.symm, wipeL_or h⟩)
      refine ⟨fun c hc => ?_, fun k c d h1 h2 h3 => ?_, R.at_⟩
      · obtain ⟨k, hk⟩ := List.getElem?_of_mem hc
        rcases get k c hk with ⟨_, _, rfl⟩ | ⟨_, rfl⟩ | ⟨_, _, rfl | h⟩
        · exact emp
        · exact new
        · exact ok_bl
        · exact R.cell c (List.mem_of_getElem? h)
      · obtain ⟨j, e, hj, he, hdw, _⟩ := I'.emp _ _ h1 h2
        obtain rfl : j = k := by omega
        rw [h3] at he; cases he
        rcases get _ c h1 with ⟨a1, a2, rfl⟩ | ⟨_, rfl⟩ | ⟨a1, a2, rfl | a3⟩
        · rcases get _ d h3 with ⟨_, _, rfl⟩ | ⟨_, rfl⟩ | ⟨_, b, _⟩
          · cases hdw
          · rfl
          · omega
        · cases h2
        · exact absurd h2 bl_tx
        · rcases get _ d h3 with ⟨_, _, rfl⟩ | ⟨b1, rfl⟩ | ⟨_, _, rfl | b3⟩
          · cases hdw
          · have : widthZ r = 2 := by simpa using hdw
            exact absurd (by omega) (a1 this)
          · cases hdw
          · exact R.adj _ _ _ a3 h2 b3
theorem rt_foldl {l : List Int} : ∀ {X : TX}, Rt X → Inv X → (∀ r, r ∈ l → isR r) → Rt (l.foldl putX X) := by
  induction l with
  | nil => intro X R _ _; exact R
  | cons r l ih => intro X R I h; exact ih (rt_put R I (h r List.mem_cons_self)) (inv_put I r) fun y hy => h y (List.mem_cons_of_mem _ hy)
theorem attrL_01 : ∀ {l : List Int} {a : Int}, a = 0 ∨ a = 1 → attrL a l = 0 ∨ attrL a l = 1
  | [], _, h => h
  | x :: l, a, h => attrL_01 (l := l) (by split; exact .inl rfl; split; exact .inr rfl; exact h)
theorem rt_erase {X : TX} (R : Rt X) (I : Inv X) {q : Int} {F T : Nat} (hT : T ≤ X.cells.length) : Rt (eraseX X q F T) := by
  obtain ⟨A, hA, hAl, hlen, _⟩ := I.rowA
  have hcol := I.col
  unfold eraseX
  simp only [Int.toNat_natCast]
  split
  · exact rt_wipe R I hT
  · split
    · exact rt_wipe R I (by rw [hA]; omega)
    · split
      · exact rt_wipe R I hT
      · exact R
theorem rt_do {X : TX} (R : Rt X) (I : Inv X) (l : List Int) (b : Int) : Rt (doX X l b) := by
  obtain ⟨A, hA, hAl, hlen, _⟩ := I.rowA
  have hc := I.c
  obtain ⟨cc, hcc⟩ : ∃ c : Nat, X.cols = (c : Int) := ⟨X.cols.toNat, by omega⟩
  have hA2 : (X.row + 1) * X.cols = ((A + cc : Nat) : Int) := by rw [Int.add_mul, Int.one_mul, hA]; omega
  have mv : ∀ r c, Rt (moveX X r c) := fun r c => rt_same R rfl R.at_
  unfold doX
  simp only
  split
  · split
    · exact rt_same R rfl R.at_
    · exact R
  · split
    · exact rt_same R rfl (attrL_01 R.at_)
    · split
      · exact mv _ _
      · split
        · exact mv _ _
        · split
          · exact mv _ _
          · split
            · exact mv _ _
            · split
              · exact mv _ _
              · split
                · exact mv _ _
                · split
                  · exact rt_erase (F := 0) R I (Nat.le_refl _)
                  · split
                    · rw [hA, hA2]; exact rt_erase R I (by omega)
                    · exact R
theorem rt_step {X : TX} (R : Rt X) (G : Good X) {b : Int} (hb : isB b) : Rt (stepX X b) := by
  unfold stepX
  split
  · split
    · exact rt_same R rfl R.at_
    · exact rt_same R rfl R.at_
  · split
    · split
      · split
        · exact rt_same R rfl R.at_
        · exact R
      · split
        · refine rt_same (X := seqX X X.seq b) ?_ rfl ?_
          · unfold seqX
            split
            · exact R
            · split
              · exact rt_do R G.inv _ _
              · exact R
          · unfold seqX
            split
            · exact R.at_
            · split
              · exact (rt_do R G.inv _ _).at_
              · exact R.at_
        · exact rt_same R rfl R.at_
    · split
      · have F := fedN_fed (X.held.length + 1) (X.held ++ [b]) (by simp)
        have hR := F.isR fun x hx => (List.mem_append.1 hx).elim (G.hb x) fun hx => by obtain rfl := List.mem_singleton.1 hx; exact hb
        have RR := rt_foldl R G.inv hR
        unfold feedX
        exact rt_same RR rfl RR.at_
      · have RR := rt_foldl (l := List.replicate X.held.length (65533 : Int)) R G.inv fun r hr => by rw [(List.mem_replicate.1 hr).2]; simp [isR]
        have RZ : Rt (flushX X) := rt_same RR rfl RR.at_
        generalize flushX X = Z at *
        unfold ctlX
        split
        · exact rt_same RZ rfl RZ.at_
        · split
          · exact rt_same RZ rfl RZ.at_
          · split
            · exact rt_same RZ rfl RZ.at_
            · split
              · exact rt_same RZ rfl RZ.at_
              · exact RZ
theorem rt_write {b : List Int} : ∀ {X : TX}, Rt X → Good X → (∀ x, x ∈ b → isB x) → Rt (writeX X b) := by
  induction b with
  | nil => intro X R _ _; exact R
  | cons x b ih => intro X R G h; exact ih (rt_step R G (h x List.mem_cons_self)) (good_step G (h x List.mem_cons_self)) fun y hy => h y (List.mem_cons_of_mem _ hy)
theorem rt_blank {X : TX} {r c : Int} (h1 : X.cells = blankL r c) (h2 : X.attr = 0 ∨ X.attr = 1) : Rt X := by
  refine ⟨fun d hd => ?_, fun i d e hd hx => ?_, h2⟩
  · rw [h1] at hd
    obtain ⟨i, hi⟩ := List.getElem?_of_mem hd
    rw [blankL_at hi]; exact ok_bl
  · rw [h1] at hd
    rw [blankL_at hd] at hx; exact absurd hx bl_tx
end Go.Proofs.YtefpalmihdbmiaaDoor.Am
end
section
/- The program's terminal: it stays as it is while another thing changes; its steps for laws. -/
set_option linter.unusedSimpArgs false
set_option linter.unusedVariables false
set_option maxHeartbeats 4000000
set_option maxRecDepth 20000
namespace Go.Proofs.YtefpalmihdbmiaaDoor.Am
open Go Go.RowKit Go.Proofs.Tryd
/-- Families, as they were at a size, and all from another on. -/
def Nar (Fs : Nat → Prop) (a b n : Nat) : Prop := Fs n ∧ n < a ∨ b ≤ n
section
variable {h0 h h' : Heap} {Fs Gs Ms : Nat → Prop} {gs : List (Value × List Int)} {t f : Nat} {nv cv sv rv : Value} {gr : Bool} {X : TX} {ps : List PC}
theorem apartH (H : Wf h) (hd : ∀ n, n < h.size → Fs n → ¬ Gs n) {v : Value} (F : Fam h Fs v) (hlt : ∀ z, blkOf v = some z → z < h.size) : ∀ z, blkOf v = some z → ¬ Rg Gs h z := fun z hz ⟨k, g, f⟩ =>
  hd k.fam (by have := H.2 z k g; have := hlt z hz; omega) (F z k hz g) f
theorem PT.aside (Q : PT h Fs gs t nv gr X f cv sv rv ps Ms) (H : Wf h) (C : Ch (Rg Gs h) h h') (hd : ∀ n, n < h.size → Fs n → ¬ Gs n) : PT h' (Nar Fs h.size h'.size) gs t nv gr X f cv sv rv ps Ms := by
  have hle := Ch.le C
  have tlt := Q.var.lt H
  have flt := Q.fv.lt H
  have at_ : ¬ Rg Gs h t := Q.var.apart (hd t tlt (Q.mF t Q.mt))
  have af : ¬ Rg Gs h f := Q.fv.apart (hd f flt (Q.mF f Q.mf))
  have off : ∀ v, Fam h (Off Fs Ms) v → (∀ z, blkOf v = some z → z < h.size) → (∀ z, blkOf v = some z → ¬ Rg Gs h z) ∧ Fam h' (Off (Nar Fs h.size h'.size) Ms) v := fun v F hlt =>
    ⟨apartH H hd (F.mono fun n hn => hn.1) hlt, fun z k hz g => by
      obtain ⟨k0, g0, e⟩ := C.2.2.2.2.1 z k (hlt z hz) g
      have := F z k0 hz g0
      have := H.2 z k0 g0
      have := hlt z hz
      rw [e]; exact ⟨.inl ⟨by have := F z k0 hz g0; exact this.1, by omega⟩, by have := F z k0 hz g0; exact this.2⟩⟩
  have hc : ∀ z, blkOf cv = some z → ¬ Rg Gs h z := apartH H hd (Q.mc.mono Q.mF) Q.clt
  have hs : ∀ z, blkOf sv = some z → ¬ Rg Gs h z := apartH H hd (Q.ms.mono Q.mF) Q.slt
  refine ⟨Ch.var H C Q.var at_, ⟨Q.gp.eq, Ch.ownR C Q.gp.own hc, fun p hp => Ch.rd C (Q.gp.rd p hp) (off _ (Q.gp.off p hp) fun z hz => ((Q.gp.rd p hp).blk_lt hz).1).1, fun p hp => (off _ (Q.gp.off p hp) fun z hz => ((Q.gp.rd p hp).blk_lt hz).1).2⟩, Ch.var H C Q.fv af, Ch.rd C Q.rr (off _ Q.ro fun z hz => (Q.rr.blk_lt hz).1).1, (off _ Q.ro fun z hz => (Q.rr.blk_lt hz).1).2, Ch.ownR C Q.so hs, Q.mt, Q.mf, Q.mc.ch C Q.clt, Q.ms.ch C Q.slt, Q.tf, Q.ct, Q.cf, Q.stn, Q.sf, fun y hy fy => ?_, fun n hn => Nat.lt_of_lt_of_le (Q.ml n hn) hle, fun n hn => .inl ⟨Q.mF n hn, Q.ml n hn⟩, fun n hn => .inr hn, fun p hp => ⟨Ch.rd C (Q.gu p hp).1 (off _ (Q.gu p hp).2 fun z hz => ((Q.gu p hp).1.blk_lt hz).1).1, (off _ (Q.gu p hp).2 fun z hz => ((Q.gu p hp).1.blk_lt hz).1).2⟩⟩
  rcases FamV.back C Q.slt fy with g | g
  · have := Q.clt y hy; omega
  · exact Q.cs y hy g
/-- The program's terminal between calls. -/
structure TT (h0 h : Heap) (Fs : Nat → Prop) (t : Nat) (X : TX) : Prop where
  pm : PM h Fs [] t (stF t X.st) (decide (X.st = 0)) X
  good : Good X
  rt : Rt X
  env : Env h0 Fs h
theorem TT.up (T : TT h0 h Fs t X) : ∀ n, h.size ≤ n → Fs n := by
  obtain ⟨f, cv, sv, rv, ps, Ms, Q⟩ := T.pm
  exact Q.up
theorem TT.wf (T : TT h0 h Fs t X) : Wf h := Ch.wf T.env.k
theorem TT.aside (T : TT h0 h Fs t X) (C : Ch (Rg Gs h) h h') (hd : ∀ n, n < h.size → Fs n → ¬ Gs n) (hg : ∀ n, Gs n → h0.size ≤ n) : TT h0 h' (Nar Fs h.size h'.size) t X := by
  obtain ⟨f, cv, sv, rv, ps, Ms, Q⟩ := T.pm
  have hle := Ch.le T.env.k
  have hle2 := Ch.le C
  exact ⟨⟨f, cv, sv, rv, ps, Ms, Q.aside T.wf C hd⟩, T.good, T.rt, T.env.gl, T.env.k.step C fun y ⟨k, g, f⟩ => Nat.le_trans (hg _ f) (T.wf.2 y k g), fun n hn => hn.elim (fun hn => T.env.f n hn.1) fun hn => by omega⟩
theorem TT.keeps (T : TT h0 h Fs t X) (K : Keeps h h') : TT h0 h' (Nar Fs h.size h'.size) t X := T.aside (Gs := fun _ => False) K.rg (fun n _ _ e => e) fun n e => e.elim
theorem TT.len (T : TT h0 h Fs t X) : 0 < X.cells.length ∧ X.cells.length ≤ 500000 := by
  obtain ⟨A, _, hA, hl, _⟩ := T.good.inv.rowA
  have := T.good.inv.c
  omega
/-- What is of no family of it stays so. -/
theorem off_nar {v : Value} (hup : ∀ n, h.size ≤ n → Fs n) (K : Keeps h h') (F : Fam h (fun n => ¬ Fs n) v) (hlt : ∀ z, blkOf v = some z → z < h.size) : Fam h' (fun n => ¬ Nar Fs h.size h'.size n) v :=
  (F.ch K hlt).mono fun n hn e => e.elim (fun e => hn e.1) fun e => hn (hup n (by have := Ch.le K; omega))
theorem off_new {v : Value} (K : Keeps h h') (hz : ∀ z, blkOf v = some z → h.size ≤ z) : Fam h' (fun n => ¬ Nar Fs h.size h'.size n) v :=
  (Fam.freshK K hz).mono fun n hn e => e.elim (fun e => by omega) fun e => by omega
theorem GD.nar {cv : Value} {l : List Cel} (G : GD h (fun n => ¬ Fs n) cv l) (hup : ∀ n, h.size ≤ n → Fs n) (K : Keeps h h') : GD h' (fun n => ¬ Nar Fs h.size h'.size n) cv l :=
  (G.keeps K).mono fun n hn e => e.elim (fun e => hn e.1) fun e => hn (hup n (by have := Ch.le K; omega))
theorem newTT {h : Heap} (G : Gl h) {r c : Int} : ACalls prog 10 #[.int .i64 r, .int .i64 c] h (fun y h' => ∃ t, y = pt t ∧ h.size ≤ t ∧ TT h h' (fun n => h.size ≤ n) t (newX r c) ∧ Keeps h h') := by
  refine newT_ok.mono ?_
  rintro y h' ⟨t, rfl, ht, P, K⟩
  exact ⟨t, rfl, ht, ⟨P, good_new r c, rt_blank rfl (.inl rfl), G, K, fun n hn => hn⟩, K⟩
theorem TT.write {bv : Value} {b : List Int} (T : TT h0 h Fs t X) (R : RdI prog h .u8 bv b) (hbv : Fam h (fun n => ¬ Fs n) bv) (hb : ∀ x, x ∈ b → isB x) (hl : b.length ≤ 1000000) :
    ACalls prog 13 #[pt t, bv] h (fun y h' => y = .tuple #[] ∧ TT h0 h' Fs t (writeX X b) ∧ Ch (Rg Fs h) h h') := by
  refine (write_ok T.pm T.good T.env R hbv hb hl).mono ?_
  rintro y h' ⟨rfl, P, C⟩
  exact ⟨rfl, ⟨P, good_write T.good hb, rt_write T.rt T.good hb, T.env.ch C⟩, C⟩
theorem TT.grid (T : TT h0 h Fs t X) : ACalls prog 18 #[pt t] h (fun y h' => ∃ cv, y = gV X cv ∧ GD h' (fun n => ¬ Nar Fs h.size h'.size n) cv X.cells ∧ TT h0 h' (Nar Fs h.size h'.size) t X ∧ Keeps h h') := by
  refine (grid_ok T.pm T.len.1 T.len.2 T.rt.len).mono ?_
  rintro y h' ⟨cv, rfl, G, K⟩
  exact ⟨cv, rfl, G.mono fun n hn e => e.elim (fun e => by omega) fun e => by omega, T.keeps K, K⟩
theorem TT.resize (T : TT h0 h Fs t X) {r c : Int} : ACalls prog 28 #[pt t, .int .i64 r, .int .i64 c] h (fun y h' => y = .tuple #[] ∧ TT h0 h' Fs t (resizeX X r c) ∧ Ch (Rg Fs h) h h') := by
  refine (resize_ok T.pm).mono ?_
  rintro y h' ⟨rfl, P, C⟩
  exact ⟨rfl, ⟨P, good_resize T.good r c, rt_blank rfl T.rt.at_, T.env.ch C⟩, C⟩
end
theorem few_ok {h : Heap} {r c : Int} {bv : Value} {b : List Int} (R : RdI prog h .u8 bv b) : ACalls prog 12 #[.int .i64 r, .int .i64 c, bv] h (fun y h' => (∃ q : Bool, y = .bool q ∧ (q = true → b.length ≤ 5000)) ∧ h' = h) := by
  refine acalls_of_W func12 rfl (by kernel_rfl) (by kernel_rfl) (by simp [ntmps12]) ?_
  have M1 := imin_spec r 500
  have M2 := imin_spec c 1000
  have M3 := imax_spec 2 (imin r 500)
  have M4 := imax_spec 2 (imin c 1000)
  have LB := R.len underlying29
  by_cases hb : (b.length : Int) ≤ 5000
  · have d := decide_eq_true hb
    simp only [wk, wt, wl, ↓reduceIte, Nat.reduceEqDiff, Nat.reduceAdd, Nat.zero_add, not_false_eq_true, not_true_eq_false, LB, d, mnV, mxV]
    exact ⟨⟨_, rfl, fun _ => by omega⟩, trivial⟩
  · have d := decide_eq_false hb
    simp only [wk, wt, wl, ↓reduceIte, Nat.reduceEqDiff, Nat.reduceAdd, Nat.zero_add, not_false_eq_true, not_true_eq_false, LB, d]
    exact ⟨⟨false, rfl, fun e => by cases e⟩, trivial⟩
end Go.Proofs.YtefpalmihdbmiaaDoor.Am
end
section
/- The document's Encode makes its bytes anew; the examples hold: contract of awake, by walks. -/
set_option linter.unusedSimpArgs false
set_option linter.unusedVariables false
set_option maxHeartbeats 4000000
set_option maxRecDepth 20000
namespace Go.Proofs.YtefpalmihdbmiaaDoor.Am
open Go Go.RowKit Go.Proofs.Tryd
theorem refEncode_new {a : Value} {l : List Int} {h : Heap} (ha : RdI prog h .i32 a l) (hl : l.length ≤ 100000000) (hr : ∀ j, isR (l.getD j 0)) :
    ACalls prog 26 #[a] h (fun v h' => RdI prog h' .u8 v (encL l) ∧ (∀ y, blkOf v = some y → h.size ≤ y) ∧ Keeps h h') := by
  refine acalls_of_W' func26 rfl (by kernel_rfl) (by kernel_rfl) (by simp [ntmps26]) ?_
  intro H
  simp only [wk, wt, wl, ↓reduceIte, Nat.reduceEqDiff, Nat.reduceAdd, Nat.zero_add, not_false_eq_true, not_true_eq_false]
  refine W_loop (fun tm h' => Keeps h h' ∧ tm 0 = a ∧ ∃ (i : Nat) (v : Value), tm 4 = .int .i64 i ∧ tm 3 = v ∧ i ≤ l.length ∧ Own prog h.size h' 1 v (encL (l.take i)).length (bI (encL (l.take i))) ∧ ∀ y, blkOf v = some y → h.size ≤ y) (fun tm _ => (l.length - intOf (tm 4)).toNat)
    ⟨Keeps.refl H, (by first | rfl | (simp only [wk, wt, wl, ↓reduceIte, Nat.reduceEqDiff, Nat.reduceAdd, Nat.zero_add, not_false_eq_true, not_true_eq_false]; done) | (simp only [wk, wt, wl, ↓reduceIte, Nat.reduceEqDiff, Nat.reduceAdd, Nat.zero_add, not_false_eq_true, not_true_eq_false]; rfl)), 0, .slice none 0 0, (by first | rfl | (simp only [wk, wt, wl, ↓reduceIte, Nat.reduceEqDiff, Nat.reduceAdd, Nat.zero_add, not_false_eq_true, not_true_eq_false]; done) | (simp only [wk, wt, wl, ↓reduceIte, Nat.reduceEqDiff, Nat.reduceAdd, Nat.zero_add, not_false_eq_true, not_true_eq_false]; rfl)), (by first | rfl | (simp only [wk, wt, wl, ↓reduceIte, Nat.reduceEqDiff, Nat.reduceAdd, Nat.zero_add, not_false_eq_true, not_true_eq_false]; done) | (simp only [wk, wt, wl, ↓reduceIte, Nat.reduceEqDiff, Nat.reduceAdd, Nat.zero_add, not_false_eq_true, not_true_eq_false]; rfl)), by omega, by simpa [encL, bI] using Own.nil0, fun y hy => by cases hy⟩ ?_
  rintro tm h' ⟨K, t0, i, v, t7, t3, hi, O, hb⟩
  simp only [wk, wt, wl, ↓reduceIte, Nat.reduceEqDiff, Nat.reduceAdd, Nat.zero_add, not_false_eq_true, not_true_eq_false, t0, t7, t3, RdI.len (ha.keeps K) underlying44]
  refine condK_dec (fun hd => ?_) (fun hd => ?_)
  · have hi1 : i < l.length := by omega
    have hlen := encL_len (l.take i)
    simp only [List.length_take] at hlen
    have hl4 := lenZ_range (r := l.getD i 0)
    unfold lenZ at hl4
    simp (disch := omega) only [wk, wt, wl, ↓reduceIte, Nat.reduceEqDiff, Nat.reduceAdd, Nat.zero_add, not_false_eq_true, not_true_eq_false, t0, t7, t3, RdI.index (ha.keeps K) underlying44 asz21 (q := .i64) (i := (i : Int)), Int.toNat_natCast, RdI.at (ha.keeps K) (t := 21) underlying21 rfl hi1]
    refine (one_ok (hr i)).use_pure ?_
    have N := Keeps.new (Ch.wf K) 5 (bI (encR (l.getD i 0)))
    have X := rdNewB (Ch.wf K) (encR (l.getD i 0))
    have O1 := O.keeps N
    simp only [wk, wt, wl, ↓reduceIte, Nat.reduceEqDiff, Nat.reduceAdd, Nat.zero_add, not_false_eq_true, not_true_eq_false, t0, t7, t3]
    obtain ⟨v2, h2, e2, O2, R2, C2, hv⟩ := O1.appendRd (P := prog) (Ch.wf N) (by have := Ch.le K; have := Ch.le N; omega) underlying29 underlying29 rfl elem5 fits5 (by decide) X (by omega)
    rw [e2]; clear e2
    have K2 := (K.trans N).step C2 fun b hb => hb.2
    have hb2 : ∀ y, blkOf v2 = some y → h.size ≤ y := fun y hy => by
      have := Ch.le K
      have := Ch.le N
      rcases hv with rfl | rfl | rfl
      · exact hb y hy
      · cases hy
      · have := blk_new y hy; omega
    simp (disch := omega) only [wk, wt, wl, ↓reduceIte, Nat.reduceEqDiff, Nat.reduceAdd, Nat.zero_add, not_false_eq_true, not_true_eq_false, t0, t7, IntWalk.i64_in, intOf_int]
    refine ⟨⟨K2, i + 1, v2, by simp, rfl, by omega, ?_, hb2⟩, by omega⟩
    rw [encL_next hi1, List.length_append, bI_append]; exact O2
  · simp only [wk, wt, wl, ↓reduceIte, Nat.reduceEqDiff, Nat.reduceAdd, Nat.zero_add, not_false_eq_true, not_true_eq_false, t3]
    rw [List.take_of_length_le (by omega)] at O
    exact ⟨O.1, hb, K⟩
theorem conv_none {h : Heap} {a : Option Addr} {n c : Nat} : aconv prog h 29 29 (.slice a n c) = none := by simp [aconv, underlying29]
theorem conv_new {h : Heap} {cells : List Value} {n c : Nat} (hn : 0 < n) (hl : n ≤ cells.length) : aconvE prog (h.new 5 cells) 29 29 (.slice (some ⟨h.size, 0, none⟩) n c) = some (.slice (some ⟨h.size, 0, none⟩) n c, h.new 5 cells) := by
  have e : isU8 (prog.underlying 5) = true := by rw [underlying5]; rfl
  simp [aconvE, underlying29, e, hn, new_self, hl, isU8]
theorem isR_small1 : ∀ j, isR (([20013] : List Int).getD j 0) := fun j => by
  cases j with
  | zero => simp [isR]
  | succ j => simp [isR]
def bytA : List Int := [97, 98, 27, 91, 50, 59, 52, 72]
def bytB : List Int := [27, 91, 49, 59, 49, 72, 27, 91, 75, 27, 91, 55, 109, 27, 91, 63, 50, 53, 108]
theorem bsA {h : Heap} : abuildSlice prog h 29 8 #[(0, .int .u8 97), (1, .int .u8 98), (2, .int .u8 27), (3, .int .u8 91), (4, .int .u8 50), (5, .int .u8 59), (6, .int .u8 52), (7, .int .u8 72)] = some (.slice (some ⟨h.size, 0, none⟩) 8 9, h.new 5 (bI bytA)) := by
  simp [abuildSlice, underlying29, asz5, azero5, firstOf, Instr.fill, Value.cells, one, bI, bytA]
  exact ⟨by kernel_rfl, by kernel_rfl⟩
theorem bsBB {h : Heap} : abuildSlice prog h 29 19 #[(0, .int .u8 27), (1, .int .u8 91), (2, .int .u8 49), (3, .int .u8 59), (4, .int .u8 49), (5, .int .u8 72), (6, .int .u8 27), (7, .int .u8 91), (8, .int .u8 75), (9, .int .u8 27), (10, .int .u8 91), (11, .int .u8 55), (12, .int .u8 109), (13, .int .u8 27), (14, .int .u8 91), (15, .int .u8 63), (16, .int .u8 50), (17, .int .u8 53), (18, .int .u8 108)] = some (.slice (some ⟨h.size, 0, none⟩) 19 20, h.new 5 (bI bytB)) := by
  simp [abuildSlice, underlying29, asz5, azero5, firstOf, Instr.fill, Value.cells, one, bI, bytB]
  exact ⟨by kernel_rfl, by kernel_rfl⟩
theorem bytA_isB : ∀ x, x ∈ bytA → isB x := by simp [bytA, isB]
theorem bytB_isB : ∀ x, x ∈ bytB → isB x := by simp [bytB, isB]
def awX : TX := ⟨2, 4, [⟨[97], 0, false⟩, ⟨[98], 0, false⟩, bl 0, bl 0, bl 0, bl 0, ⟨[20013], 0, true⟩, ⟨[], 0, false⟩], 1, 3, 0, false, some 6, 0, [50, 59, 52], []⟩
def awY : TX := ⟨2, 4, [bl 0, bl 0, bl 0, bl 0, bl 0, bl 0, ⟨[20013], 0, true⟩, ⟨[], 0, false⟩], 0, 0, 1, true, none, 0, [63, 50, 53], []⟩
theorem awX_eq : writeX (writeX (newX 2 4) bytA) (encL [20013]) = awX := by kernel_rfl
theorem awY_eq : writeX awX bytB = awY := by kernel_rfl
/-- A local grid. -/
theorem putGrid {h : Heap} (H : Wf h) {r c y x : Int} {v : Value} (o : one v = true) : ∃ h', storeV prog (h.new 38 [.int .i64 0, .int .i64 0, .slice none 0 0, .int .i64 0, .int .i64 0]) 38 (.pointer (some ⟨h.size, 0, none⟩)) (.agg #[.int .i64 r, .int .i64 c, v, .int .i64 y, .int .i64 x]) = some (undef, h') ∧
    Var h' h.size [.int .i64 r, .int .i64 c, v, .int .i64 y, .int .i64 x] ∧ Keeps h h' ∧ h.size < h'.size := by
  have N1 := Keeps.new H 38 [.int .i64 0, .int .i64 0, .slice none 0 0, .int .i64 0, .int .i64 0]
  have V1 := Var.new (e := 38) H (cs := [.int .i64 0, .int .i64 0, .slice none 0 0, .int .i64 0, .int .i64 0])
  obtain ⟨h2, e2, V2, C2, z2⟩ := V1.store (P := prog) (t := 38) (v := .agg #[.int .i64 r, .int .i64 c, v, .int .i64 y, .int .i64 x]) (i := 0) (Ch.wf N1) asz38 (by simp [Value.cells, one_cells o]) (by simp [Value.cells, one_cells o, o, one_int])
  have hcs : (Value.agg #[.int .i64 r, .int .i64 c, v, .int .i64 y, .int .i64 x]).cells.toList = [.int .i64 r, .int .i64 c, v, .int .i64 y, .int .i64 x] := by simp [Value.cells, one_cells o]
  rw [hcs, over_all (xs := [.int .i64 0, .int .i64 0, .slice none 0 0, .int .i64 0, .int .i64 0]) (vs := [.int .i64 r, .int .i64 c, v, .int .i64 y, .int .i64 x]) rfl] at V2
  exact ⟨h2, e2, V2, N1.step C2 fun y e => by omega, by have : (h.new 38 [.int .i64 0, .int .i64 0, .slice none 0 0, .int .i64 0, .int .i64 0]).size = h.size + 1 := rfl; omega⟩
theorem la_cons {α : Type} {a : α} {l r : List α} : List.append (a :: l) r = a :: List.append l r := rfl
theorem la_nil {α : Type} {r : List α} : List.append [] r = r := rfl
theorem nar_not {Fs : Nat → Prop} {a b n : Nat} (h1 : a ≤ n) (h2 : n < b) : ¬ Nar Fs a b n := fun e => e.elim (fun e => by omega) fun e => by omega
theorem nar_sub {Fs : Nat → Prop} {a b n : Nat} (h : ¬ Fs n) (h2 : n < b) : ¬ Nar Fs a b n := fun e => e.elim (fun e => h e.1) fun e => by omega
theorem awake_ok {h : Heap} (G : Gl h) : ACalls prog 16 #[] h (fun y h' => y = .bool true ∧ Keeps h h') := by
  refine acalls_of_W' func16 rfl (by kernel_rfl) (by kernel_rfl) (by simp [ntmps16]) ?_
  intro H
  simp only [wk, wt, wl, ↓reduceIte, Nat.reduceEqDiff, Nat.reduceAdd, Nat.zero_add, not_false_eq_true, not_true_eq_false]
  refine (newTT G (r := 2) (c := 4)).use ?_
  rintro _ h1 ⟨t, rfl, htl, T1, K1⟩
  have PE := fun {a : Addr} => ptr_some (P := prog) (a := a) underlying25
  have N2 := Keeps.new T1.wf 5 (bI bytA)
  have T2 := T1.keeps N2
  have R2 : RdI prog (h1.new 5 (bI bytA)) .u8 (.slice (some ⟨h1.size, 0, none⟩) 8 9) bytA := rdNewB T1.wf bytA
  have B2 := off_new (Fs := fun n => h.size ≤ n) (v := .slice (some ⟨h1.size, 0, none⟩) 8 9) N2 blk_new
  have CV := conv_new (h := h1) (cells := bI bytA) (n := 8) (c := 9) (by decide) (by decide)
  simp only [wk, wt, wl, ↓reduceIte, Nat.reduceEqDiff, Nat.reduceAdd, Nat.zero_add, not_false_eq_true, not_true_eq_false, pt, PE, bsA, conv_none, CV]
  refine (T2.write R2 B2 bytA_isB (by decide)).use ?_
  rintro _ h3 ⟨rfl, T3, C3⟩
  clear C3 R2 B2 CV N2 T2
  generalize Nar _ _ _ = F3 at T3
  have N4 := Keeps.new T3.wf 21 [.int .i32 20013]
  have R4 : RdI prog (h3.new 21 [.int .i32 20013]) .i32 (.slice (some ⟨h3.size, 0, none⟩) 1 2) [20013] := rdI_new T3.wf (xs := [20013])
  simp only [wk, wt, wl, ↓reduceIte, Nat.reduceEqDiff, Nat.reduceAdd, Nat.zero_add, not_false_eq_true, not_true_eq_false, build1 underlying44 asz21 azero21 rfl (one_int (k := .i32) (x := 20013))]
  refine (refEncode_new R4 (by decide) (isR_small1)).use ?_
  rintro ev h5 ⟨R5, B5, K5⟩
  have K45 := N4.trans K5
  have T5 := T3.keeps K45
  have B5' := off_new (Fs := F3) (v := ev) K45 fun z hz => Nat.le_of_succ_le (B5 z hz)
  simp only [wk, wt, wl, ↓reduceIte, Nat.reduceEqDiff, Nat.reduceAdd, Nat.zero_add, not_false_eq_true, not_true_eq_false]
  refine (T5.write R5 B5' encL_isB (by decide)).use ?_
  rintro _ h6 ⟨rfl, T6, C6⟩
  rw [awX_eq] at T6
  clear C6 R5 B5 B5' K5 K45 N4 R4 T5 T3
  generalize Nar _ _ _ = F6 at T6
  simp only [wk, wt, wl, ↓reduceIte, Nat.reduceEqDiff, Nat.reduceAdd, Nat.zero_add, not_false_eq_true, not_true_eq_false]
  refine T6.grid.use ?_
  rintro _ h7 ⟨gv, rfl, G7, T7, K7⟩
  generalize Nar _ _ _ = F7 at T7 G7
  clear K7 T6
  obtain ⟨h8, e8, V8, K8, z8⟩ := putGrid T7.wf (r := 2) (c := 4) (v := gv) (y := 1) (x := 3) G7.one
  have G8 := G7.nar T7.up K8
  have T8 := T7.keeps K8
  have f8 : ¬ Nar F7 h7.size h8.size h7.size := nar_not (Nat.le_refl _) z8
  have N9 := Keeps.new T8.wf 5 (bI bytB)
  have z9 : h8.size < (h8.new 5 (bI bytB)).size := Nat.lt_succ_self _
  have R9 : RdI prog (h8.new 5 (bI bytB)) .u8 (.slice (some ⟨h8.size, 0, none⟩) 19 20) bytB := rdNewB T8.wf bytB
  have B9 := off_new (Fs := Nar F7 h7.size h8.size) (v := .slice (some ⟨h8.size, 0, none⟩) 19 20) N9 blk_new
  have CV := conv_new (h := h8) (cells := bI bytB) (n := 19) (c := 20) (by decide) (by decide)
  have T9 := T8.keeps N9
  have G9 := G8.nar T8.up N9
  have V9 := Keeps.var T8.wf N9 V8
  have f9 := nar_sub (a := h8.size) (b := (h8.new 5 (bI bytB)).size) f8 (by omega)
  simp only [wk, wt, wl, ↓reduceIte, Nat.reduceEqDiff, Nat.reduceAdd, Nat.zero_add, not_false_eq_true, not_true_eq_false, gV, awX, e8, pt, bsBB, conv_none, CV]
  generalize Nar (Nar F7 h7.size h8.size) h8.size (h8.new 5 (bI bytB)).size = F9 at *
  generalize h8.new 5 (bI bytB) = h9 at *
  refine (T9.write R9 B9 bytB_isB (by decide)).use ?_
  rintro _ h10 ⟨rfl, T10, C10⟩
  rw [awY_eq] at T10
  have G10 := G9.ch C10 fun n hn => hn
  have V10 := Ch.var T9.wf C10 V9 (V9.apart f9)
  have z10 := Ch.le C10
  clear C10 R9 B9 CV
  simp only [wk, wt, wl, ↓reduceIte, Nat.reduceEqDiff, Nat.reduceAdd, Nat.zero_add, not_false_eq_true, not_true_eq_false, pt]
  refine T10.grid.use ?_
  rintro _ h11 ⟨gw, rfl, E11, T11, K11⟩
  have G11 := G10.nar T10.up K11
  have V11 := Keeps.var T10.wf K11 V10
  have z11 := Ch.le K11
  have f11 := nar_sub (a := h10.size) (b := h11.size) f9 (by omega)
  generalize Nar F9 h10.size h11.size = F11 at *
  obtain ⟨h12, e12, W12, K12, z12⟩ := putGrid T11.wf (r := 2) (c := 4) (v := gw) (y := 0) (x := 0) E11.one
  have G12 := G11.nar T11.up K12
  have E12 := E11.nar T11.up K12
  have V12 := Keeps.var T11.wf K12 V11
  have T12 := T11.keeps K12
  generalize Nar F11 h11.size h12.size = F12 at *
  obtain ⟨_, _, a2, a3, a4, _⟩ := loadGrid V12
  obtain ⟨_, _, b2, _, _, _⟩ := loadGrid W12
  obtain ⟨t6, _, _, _, _, m6, I6, _⟩ := G12.at (i := 6) (c := ⟨[20013], 0, true⟩) rfl
  obtain ⟨t7, R7, _, m7, _, _, I7, _⟩ := G12.at (i := 7) (c := ⟨[], 0, false⟩) rfl
  obtain ⟨t1, R1, m1, _, _, _, I1, _⟩ := G12.at (i := 1) (c := ⟨[98], 0, false⟩) rfl
  have L7 := R7.len underlying44
  have N13 := Keeps.new T12.wf 21 [.int .i32 98]
  have R13 : RdI prog (h12.new 21 [.int .i32 98]) .i32 (.slice (some ⟨h12.size, 0, none⟩) 1 2) [98] := rdI_new T12.wf (xs := [98])
  have LG := G12.len
  have LE := E12.len
  simp only [awX, awY, List.length_cons, List.length_nil, Nat.reduceAdd, Int.cast_ofNat_Int] at LG LE L7 m6 m7 m1 I6 I7 I1
  simp only [wk, wt, wl, ↓reduceIte, Nat.reduceEqDiff, Nat.reduceAdd, Nat.zero_add, not_false_eq_true, not_true_eq_false, gV, awY, e12, pt]
  simp only [la_cons, la_nil, List.toList_toArray]
  simp only [wk, wt, wl, ↓reduceIte, Nat.reduceEqDiff, Nat.reduceAdd, Nat.zero_add, not_false_eq_true, not_true_eq_false, pt, a2, LG, b2, LE, I6, m6, I7, m7, L7, a3, a4, I1, m1, build1 underlying44 asz21 azero21 rfl (one_int (k := .i32) (x := 98)), build_cell1]
  refine (cell_ok (c := ⟨[98], 0, false⟩) (R1.keeps N13) R13 (by decide)).use ?_
  rintro _ h14 ⟨rfl, K14⟩
  have K1214 := N13.trans K14
  have T14 := T12.keeps K1214
  have E14 := E12.keeps K1214
  obtain ⟨_, _, b2', _, _, _⟩ := loadGrid (Keeps.var T12.wf K1214 W12)
  obtain ⟨t2, R2, m2, _, _, _, I2, _⟩ := E14.at (i := 1) (c := bl 0) rfl
  have N15 := Keeps.new T14.wf 21 [.int .i32 32]
  have R15 : RdI prog (h14.new 21 [.int .i32 32]) .i32 (.slice (some ⟨h14.size, 0, none⟩) 1 2) [32] := rdI_new T14.wf (xs := [32])
  simp only [bl, Int.cast_ofNat_Int] at m2 I2
  simp only [wk, wt, wl, ↓reduceIte, Nat.reduceEqDiff, Nat.reduceAdd, Nat.zero_add, not_false_eq_true, not_true_eq_false, b2', I2, m2, build1 underlying44 asz21 azero21 rfl (one_int (k := .i32) (x := 32)), build_cell1]
  refine (cell_ok (c := bl 0) (R2.keeps N15) R15 (by decide)).use ?_
  rintro _ h16 ⟨rfl, K16⟩
  have T16 := T14.keeps (N15.trans K16)
  simp only [wk, wt, wl, ↓reduceIte, Nat.reduceEqDiff, Nat.reduceAdd, Nat.zero_add, not_false_eq_true, not_true_eq_false]
  refine (attr_ok T16.pm).use_pure ?_
  simp only [wk, wt, wl, ↓reduceIte, Nat.reduceEqDiff, Nat.reduceAdd, Nat.zero_add, not_false_eq_true, not_true_eq_false, awY]
  refine (shown_ok T16.pm).use_pure ?_
  simp only [wk, wt, wl, ↓reduceIte, Nat.reduceEqDiff, Nat.reduceAdd, Nat.zero_add, not_false_eq_true, not_true_eq_false, awY]
  refine (waits_ok T16.pm).use_pure ?_
  simp only [wk, wt, wl, ↓reduceIte, Nat.reduceEqDiff, Nat.reduceAdd, Nat.zero_add, not_false_eq_true, not_true_eq_false, awY]
  exact ⟨by simp, T16.env.k⟩
end Go.Proofs.YtefpalmihdbmiaaDoor.Am
end
section
/- TermRight, TermClears, TermPieces and TermNone, told of abstract memory: they answer true. -/
set_option linter.unusedSimpArgs false
set_option linter.unusedVariables false
set_option maxHeartbeats 4000000
set_option maxRecDepth 20000
namespace Go.Proofs.YtefpalmihdbmiaaDoor.Am
open Go Go.RowKit Go.Proofs.Tryd
def szV (r c : Int) : Value := .agg #[.int .i64 r, .int .i64 c]
theorem boxV_size {h : Heap} {r c : Int} : boxV prog h 23 (.agg #[.int .i64 r, .int .i64 c]) = some (.pointer (some ⟨h.size, 0, none⟩), h.new 23 [.int .i64 r, .int .i64 c]) := by
  simp [boxV, asz23, Value.cells, one]
theorem loadSize {h : Heap} {b : Nat} {r c : Int} (V : Var h b [.int .i64 r, .int .i64 c]) : aload prog h 3 ⟨b, 0, none⟩ = some (.int .i64 r) ∧ aload prog h 3 ⟨b, 1, none⟩ = some (.int .i64 c) :=
  ⟨V.load1 (i := 0) underlying3 rfl, V.load1 (i := 1) underlying3 rfl⟩
/-- What was there is of an elder family. -/
theorem oldFam {h : Heap} {s n : Nat} {v : Value} {cs : List Value} (H : Wf h) (R : Rd prog h s v n cs) : Fam h (fun n => n < h.size) v := fun z k hz g => by
  have := H.2 z k g
  have := (R.blk_lt hz).1
  show k.fam < h.size
  omega
theorem TT.not {h0 h : Heap} {Fs : Nat → Prop} {t : Nat} {X : TX} {v : Value} (T : TT h0 h Fs t X) (F : Fam h (fun n => n < h0.size) v) : Fam h (fun n => ¬ Fs n) v := F.mono fun n hn e => by have := T.env.f n e; omega
theorem TT.base {h0 h1 h : Heap} {Fs : Nat → Prop} {t : Nat} {X : TX} (T : TT h1 h Fs t X) (G : Gl h0) (K : Keeps h0 h1) : TT h0 h Fs t X :=
  ⟨T.pm, T.good, T.rt, G, K.trans T.env.k, fun n hn => Nat.le_trans (Ch.le K) (T.env.f n hn)⟩
theorem putX_size {X : TX} {r : Int} : (putX X r).rows = X.rows ∧ (putX X r).cols = X.cols := by
  obtain ⟨rows, cols, cells, row, col, attr, hid, last, st, seq, held⟩ := X
  unfold putX
  split
  · exact ⟨rfl, rfl⟩
  · split
    · cases last with
      | none => exact ⟨rfl, rfl⟩
      | some i => simp only; split <;> exact ⟨rfl, rfl⟩
    · exact ⟨rfl, rfl⟩
theorem foldl_size {l : List Int} : ∀ {X : TX}, (l.foldl putX X).rows = X.rows ∧ (l.foldl putX X).cols = X.cols := by
  induction l with
  | nil => intro X; exact ⟨rfl, rfl⟩
  | cons r l ih => intro X; rw [List.foldl_cons, ih.1, ih.2]; exact putX_size
theorem doX_size {X : TX} {l : List Int} {b : Int} : (doX X l b).rows = X.rows ∧ (doX X l b).cols = X.cols := by
  unfold doX
  simp only
  (repeat' split) <;> first | exact ⟨rfl, rfl⟩ | (unfold eraseX; simp only; (repeat' split) <;> exact ⟨rfl, rfl⟩)
theorem seqX_size {X : TX} {s : List Int} {b : Int} : (seqX X s b).rows = X.rows ∧ (seqX X s b).cols = X.cols := by
  unfold seqX
  split
  · exact ⟨rfl, rfl⟩
  · split
    · exact doX_size
    · exact ⟨rfl, rfl⟩
theorem stepX_size {X : TX} {b : Int} : (stepX X b).rows = X.rows ∧ (stepX X b).cols = X.cols := by
  unfold stepX
  split
  · split <;> exact ⟨rfl, rfl⟩
  · split
    · split
      · split <;> exact ⟨rfl, rfl⟩
      · split
        · exact seqX_size
        · exact ⟨rfl, rfl⟩
    · split
      · unfold feedX; exact foldl_size
      · have h : (flushX X).rows = X.rows ∧ (flushX X).cols = X.cols := by unfold flushX; exact foldl_size
        unfold ctlX
        (repeat' split) <;> exact h
theorem writeX_size {b : List Int} : ∀ {X : TX}, (writeX X b).rows = X.rows ∧ (writeX X b).cols = X.cols := by
  induction b with
  | nil => intro X; exact ⟨rfl, rfl⟩
  | cons x b ih => intro X; show (writeX (stepX X x) b).rows = _ ∧ (writeX (stepX X x) b).cols = _; rw [ih.1, ih.2]; exact stepX_size
def bytC : List Int := [27, 91, 50, 74]
theorem bytC_isB : ∀ x, x ∈ bytC → isB x := by simp [bytC, isB]
theorem wipe_all {l : List Cel} : wipeL l 0 l.length = List.replicate l.length (bl 0) := by
  refine List.ext_getElem? fun i => ?_
  rw [List.getElem?_replicate]
  by_cases hi : i < l.length
  · rw [if_pos hi]
    exact wipeL_in (Nat.le_refl _) (Nat.zero_le _) hi
  · rw [if_neg hi, List.getElem?_eq_none (by rw [wipeL_len]; omega)]
theorem clearX {X : TX} (h0 : X.st = 0) (hh : X.held = []) : writeX X bytC = { X with cells := List.replicate X.cells.length (bl 0), seq := [50], last := none } := by
  obtain ⟨rows, cols, cells, row, col, attr, hid, last, st, seq, held⟩ := X
  simp only at h0 hh
  subst h0; subst hh
  simp only [writeX, bytC, List.foldl_cons, List.foldl_nil]
  have e1 : stepX ⟨rows, cols, cells, row, col, attr, hid, last, 0, seq, []⟩ 27 = ⟨rows, cols, cells, row, col, attr, hid, none, 1, seq, []⟩ := rfl
  have e2 : stepX ⟨rows, cols, cells, row, col, attr, hid, none, 1, seq, []⟩ 91 = ⟨rows, cols, cells, row, col, attr, hid, none, 2, [], []⟩ := rfl
  have e3 : stepX ⟨rows, cols, cells, row, col, attr, hid, none, 2, [], []⟩ 50 = ⟨rows, cols, cells, row, col, attr, hid, none, 2, [50], []⟩ := rfl
  have e4 : stepX ⟨rows, cols, cells, row, col, attr, hid, none, 2, [50], []⟩ 74 = ⟨rows, cols, wipeL cells 0 cells.length, row, col, attr, hid, none, 0, [50], []⟩ := rfl
  rw [e1, e2, e3, e4, wipe_all]
theorem cells_new {r c : Int} {X : TX} (I : Inv X) (h1 : X.rows = sizeR r) (h2 : X.cols = sizeC c) : List.replicate X.cells.length (bl 0) = (newX r c).cells := by
  have := I.n
  show _ = blankL r c
  unfold blankL
  congr 1
  rw [← h1, ← h2]; omega
theorem termRight_law {h : Heap} {r c : Int} {bv : Value} {b : List Int} (G : Gl h) (R : RdI prog h .u8 bv b) (hb : ∀ x, x ∈ b → isB x) :
    ACalls prog 5 #[szV r c, bv] h (fun y h' => y = .bool true ∧ Keeps h h') := by
  refine acalls_of_W' func5 rfl (by kernel_rfl) (by kernel_rfl) (by simp [ntmps5]) ?_
  intro H
  have N1 := Keeps.new H 23 [.int .i64 r, .int .i64 c]
  have V1 := Var.new (e := 23) H (cs := [.int .i64 r, .int .i64 c])
  have R1 := R.keeps N1
  have G1 := G.keeps N1
  have O1 := oldFam H R
  have hlt : ∀ z, blkOf bv = some z → z < h.size := fun z hz => (R.blk_lt hz).1
  have PE := fun {a : Addr} => ptr_some (P := prog) (a := a) underlying25
  simp only [szV]
  simp only [wk, wt, wl, ↓reduceIte, Nat.reduceEqDiff, Nat.reduceAdd, Nat.zero_add, not_false_eq_true, not_true_eq_false, aeff_box, boxV_size]
  have O1 := O1.ch N1 hlt
  have O1 : Fam (h.new 23 [.int .i64 r, .int .i64 c]) (fun n => n < (h.new 23 [.int .i64 r, .int .i64 c]).size) bv := O1.mono fun n hn => Nat.lt_of_lt_of_le hn (Ch.le N1)
  have hlt : ∀ z, blkOf bv = some z → z < (h.new 23 [.int .i64 r, .int .i64 c]).size := fun z hz => (R1.blk_lt hz).1
  generalize h.new 23 [.int .i64 r, .int .i64 c] = h1 at *
  obtain ⟨S0, S1⟩ := loadSize V1
  simp only [wk, wt, wl, ↓reduceIte, Nat.reduceEqDiff, Nat.reduceAdd, Nat.zero_add, not_false_eq_true, not_true_eq_false, S0, S1]
  refine (few_ok R1).use ?_
  rintro _ hx ⟨⟨q, rfl, hq⟩, hh⟩
  have hh := hh.symm
  subst hh
  cases q with
  | false => simp only [wk, wt, wl, ↓reduceIte, Nat.reduceEqDiff, Nat.reduceAdd, Nat.zero_add, not_false_eq_true, not_true_eq_false, Bool.not_false]; exact N1
  | true =>
    simp only [wk, wt, wl, ↓reduceIte, Nat.reduceEqDiff, Nat.reduceAdd, Nat.zero_add, not_false_eq_true, not_true_eq_false, Bool.not_true, S0, S1]
    refine (newTT G1 (r := r) (c := c)).use ?_
    rintro _ h2 ⟨t, rfl, ht, T2, K2⟩
    simp only [wk, wt, wl, ↓reduceIte, Nat.reduceEqDiff, Nat.reduceAdd, Nat.zero_add, not_false_eq_true, not_true_eq_false, pt, PE]
    refine (T2.write (R1.keeps K2) (T2.not (O1.ch K2 hlt)) hb (by have := hq rfl; omega)).use ?_
    rintro _ h3 ⟨rfl, T3, C3⟩
    simp only [wk, wt, wl, ↓reduceIte, Nat.reduceEqDiff, Nat.reduceAdd, Nat.zero_add, not_false_eq_true, not_true_eq_false, pt]
    refine T3.grid.use ?_
    rintro _ h4 ⟨cv, rfl, G4, T4, K4⟩
    simp only [wk, wt, wl, ↓reduceIte, Nat.reduceEqDiff, Nat.reduceAdd, Nat.zero_add, not_false_eq_true, not_true_eq_false]
    refine (right_ok G4 T4.good.inv T4.rt).use ?_
    rintro _ h5 ⟨rfl, K5⟩
    simp only [wk, wt, wl, ↓reduceIte, Nat.reduceEqDiff, Nat.reduceAdd, Nat.zero_add, not_false_eq_true, not_true_eq_false]
    refine (awake_ok ((T4.keeps K5).env.at)).use ?_
    rintro _ h6 ⟨rfl, K6⟩
    simp only [wk, wt, wl, ↓reduceIte, Nat.reduceEqDiff, Nat.reduceAdd, Nat.zero_add, not_false_eq_true, not_true_eq_false]
    exact N1.trans ((T4.keeps K5).env.k.trans K6)
theorem bsC {h : Heap} : abuildSlice prog h 29 4 #[(0, .int .u8 27), (1, .int .u8 91), (2, .int .u8 50), (3, .int .u8 74)] = some (.slice (some ⟨h.size, 0, none⟩) 4 5, h.new 5 (bI bytC)) := by
  simp [abuildSlice, underlying29, asz5, azero5, firstOf, Instr.fill, Value.cells, one, bI, bytC]
  exact ⟨by kernel_rfl, by kernel_rfl⟩
theorem termClears_law {h : Heap} {r c : Int} {bv : Value} {b : List Int} (G : Gl h) (R : RdI prog h .u8 bv b) (hb : ∀ x, x ∈ b → isB x) :
    ACalls prog 7 #[szV r c, bv] h (fun y h' => y = .bool true ∧ Keeps h h') := by
  refine acalls_of_W' func7 rfl (by kernel_rfl) (by kernel_rfl) (by simp [ntmps7]) ?_
  intro H
  have N1 := Keeps.new H 23 [.int .i64 r, .int .i64 c]
  have V1 := Var.new (e := 23) H (cs := [.int .i64 r, .int .i64 c])
  have R1 := R.keeps N1
  have G1 := G.keeps N1
  have O1 := oldFam H R
  have hlt : ∀ z, blkOf bv = some z → z < h.size := fun z hz => (R.blk_lt hz).1
  have PE := fun {a : Addr} => ptr_some (P := prog) (a := a) underlying25
  simp only [szV]
  simp only [wk, wt, wl, ↓reduceIte, Nat.reduceEqDiff, Nat.reduceAdd, Nat.zero_add, not_false_eq_true, not_true_eq_false, aeff_box, boxV_size]
  have O1 := O1.ch N1 hlt
  have O1 : Fam (h.new 23 [.int .i64 r, .int .i64 c]) (fun n => n < (h.new 23 [.int .i64 r, .int .i64 c]).size) bv := O1.mono fun n hn => Nat.lt_of_lt_of_le hn (Ch.le N1)
  have hlt : ∀ z, blkOf bv = some z → z < (h.new 23 [.int .i64 r, .int .i64 c]).size := fun z hz => (R1.blk_lt hz).1
  generalize h.new 23 [.int .i64 r, .int .i64 c] = h1 at *
  obtain ⟨S0, S1⟩ := loadSize V1
  simp only [wk, wt, wl, ↓reduceIte, Nat.reduceEqDiff, Nat.reduceAdd, Nat.zero_add, not_false_eq_true, not_true_eq_false, S0, S1]
  refine (few_ok R1).use ?_
  rintro _ hx ⟨⟨q, rfl, hq⟩, hh⟩
  have hh := hh.symm
  subst hh
  cases q with
  | false => simp only [wk, wt, wl, ↓reduceIte, Nat.reduceEqDiff, Nat.reduceAdd, Nat.zero_add, not_false_eq_true, not_true_eq_false, Bool.not_false]; exact N1
  | true =>
    simp only [wk, wt, wl, ↓reduceIte, Nat.reduceEqDiff, Nat.reduceAdd, Nat.zero_add, not_false_eq_true, not_true_eq_false, Bool.not_true, S0, S1]
    refine (newTT G1 (r := r) (c := c)).use ?_
    rintro _ h2 ⟨t, rfl, ht, T2, K2⟩
    simp only [wk, wt, wl, ↓reduceIte, Nat.reduceEqDiff, Nat.reduceAdd, Nat.zero_add, not_false_eq_true, not_true_eq_false, pt, PE]
    refine T2.grid.use ?_
    rintro _ h3 ⟨gv, rfl, G3, T3, K3⟩
    have z3 := Ch.le K3
    generalize Nar _ _ _ = F3 at T3 G3
    obtain ⟨h4, e4, V4, K4, z4⟩ := putGrid T3.wf (r := (newX r c).rows) (c := (newX r c).cols) (v := gv) (y := (newX r c).row) (x := (newX r c).col) G3.one
    have G4 := G3.nar T3.up K4
    have T4 := T3.keeps K4
    have f4 : ¬ Nar F3 h3.size h4.size h3.size := nar_not (Nat.le_refl _) z4
    generalize Nar F3 h3.size h4.size = F4 at *
    simp only [wk, wt, wl, ↓reduceIte, Nat.reduceEqDiff, Nat.reduceAdd, Nat.zero_add, not_false_eq_true, not_true_eq_false, gV, e4, pt]
    refine (T4.write (R1.keeps ((K2.trans K3).trans K4)) (T4.not (O1.ch ((K2.trans K3).trans K4) hlt)) hb (by have := hq rfl; omega)).use ?_
    rintro _ h5 ⟨rfl, T5, C5⟩
    have G5 := G4.ch C5 fun n hn => hn
    have V5 := Ch.var T4.wf C5 V4 (V4.apart f4)
    have z5 := Ch.le C5
    obtain ⟨X, hX⟩ : ∃ X, writeX (newX r c) b = X := ⟨_, rfl⟩
    have sz := writeX_size (b := b) (X := newX r c)
    rw [hX] at T5 sz
    clear C5
    simp only [wk, wt, wl, ↓reduceIte, Nat.reduceEqDiff, Nat.reduceAdd, Nat.zero_add, not_false_eq_true, not_true_eq_false, pt]
    refine (waits_ok T5.pm).use_pure ?_
    by_cases hw : X.st = 0 ∧ X.held = []
    · have dw : (!decide (X.st = 0) || decide (X.held ≠ [])) = false := by simp [hw.1, hw.2]
      simp only [wk, wt, wl, ↓reduceIte, Nat.reduceEqDiff, Nat.reduceAdd, Nat.zero_add, not_false_eq_true, not_true_eq_false, dw]
      refine T5.grid.use ?_
      rintro _ h6 ⟨gw, rfl, E6, T6, K6⟩
      have G6 := G5.nar T5.up K6
      have V6 := Keeps.var T5.wf K6 V5
      have f6 := nar_sub (a := h5.size) (b := h6.size) f4 (by have := Ch.le K6; omega)
      have z6 := Ch.le K6
      generalize Nar F4 h5.size h6.size = F6 at *
      obtain ⟨h7, e7, W7, K7, z7⟩ := putGrid T6.wf (r := X.rows) (c := X.cols) (v := gw) (y := X.row) (x := X.col) E6.one
      have G7 := G6.nar T6.up K7
      have V7 := Keeps.var T6.wf K7 V6
      have T7 := T6.keeps K7
      have f7 := nar_sub (a := h6.size) (b := h7.size) f6 (by omega)
      have w7 : ¬ Nar F6 h6.size h7.size h6.size := nar_not (Nat.le_refl _) z7
      generalize Nar F6 h6.size h7.size = F7 at *
      have N8 := Keeps.new T7.wf 5 [.int .u8 27, .int .u8 91, .int .u8 50, .int .u8 74]
      have z8 : h7.size < (h7.new 5 [.int .u8 27, .int .u8 91, .int .u8 50, .int .u8 74]).size := Nat.lt_succ_self _
      have R8 : RdI prog (h7.new 5 [.int .u8 27, .int .u8 91, .int .u8 50, .int .u8 74]) .u8 (.slice (some ⟨h7.size, 0, none⟩) 4 5) bytC := rdNewB T7.wf bytC
      have B8 := off_new (Fs := F7) (v := .slice (some ⟨h7.size, 0, none⟩) 4 5) N8 blk_new
      have CV := conv_new (h := h7) (cells := [.int .u8 27, .int .u8 91, .int .u8 50, .int .u8 74]) (n := 4) (c := 5) (by decide) (by decide)
      have T8 := T7.keeps N8
      have G8 := G7.nar T7.up N8
      have V8 := Keeps.var T7.wf N8 V7
      have W8 := Keeps.var T7.wf N8 W7
      have f8 := nar_sub (a := h7.size) (b := (h7.new 5 [.int .u8 27, .int .u8 91, .int .u8 50, .int .u8 74]).size) f7 (by omega)
      have w8 := nar_sub (a := h7.size) (b := (h7.new 5 [.int .u8 27, .int .u8 91, .int .u8 50, .int .u8 74]).size) w7 (by omega)
      simp only [wk, wt, wl, ↓reduceIte, Nat.reduceEqDiff, Nat.reduceAdd, Nat.zero_add, not_false_eq_true, not_true_eq_false, gV, e7, pt, conv_none, CV]
      generalize Nar F7 h7.size (h7.new 5 [.int .u8 27, .int .u8 91, .int .u8 50, .int .u8 74]).size = F8 at *
      generalize h7.new 5 [.int .u8 27, .int .u8 91, .int .u8 50, .int .u8 74] = h8 at *
      refine (T8.write R8 B8 bytC_isB (by decide)).use ?_
      rintro _ h9 ⟨rfl, T9, C9⟩
      rw [clearX hw.1 hw.2] at T9
      have G9 := G8.ch C9 fun n hn => hn
      have V9 := Ch.var T8.wf C9 V8 (V8.apart f8)
      have W9 := Ch.var T8.wf C9 W8 (W8.apart w8)
      have hcell := cells_new T5.good.inv sz.1 sz.2
      rw [hcell] at T9
      simp only [wk, wt, wl, ↓reduceIte, Nat.reduceEqDiff, Nat.reduceAdd, Nat.zero_add, not_false_eq_true, not_true_eq_false, pt]
      refine T9.grid.use ?_
      rintro _ h10 ⟨gx, rfl, D10, T10, K10⟩
      have G10 := G9.nar T9.up K10
      have V10 := Keeps.var T9.wf K10 V9
      have W10 := Keeps.var T9.wf K10 W9
      generalize Nar F8 h9.size h10.size = F10 at *
      obtain ⟨h11, e11, U11, K11, z11⟩ := putGrid T10.wf (r := X.rows) (c := X.cols) (v := gx) (y := X.row) (x := X.col) D10.one
      have G11 := G10.nar T10.up K11
      have D11 := D10.nar T10.up K11
      have V11 := Keeps.var T10.wf K11 V10
      have W11 := Keeps.var T10.wf K11 W10
      have T11 := T10.keeps K11
      obtain ⟨_, _, _, u3, u4, _⟩ := loadGrid U11
      obtain ⟨_, _, _, w3, w4, _⟩ := loadGrid W11
      have dr : decide (¬ X.row = X.row) = false := decide_eq_false fun e => e rfl
      have dc : decide (¬ X.col = X.col) = false := decide_eq_false fun e => e rfl
      obtain ⟨h12, e12, U12, C12, z12⟩ := U11.store1 (P := prog) (t := 3) (v := .int .i64 0) (i := 3) T11.wf asz3 (by simp) rfl
      obtain ⟨h13, e13, U13, C13, z13⟩ := U12.store1 (P := prog) (t := 3) (v := .int .i64 0) (i := 4) (Ch.wf C12) asz3 (by simp) rfl
      simp only [List.set_cons_succ, List.set_cons_zero] at U13
      have C23 : Ch (fun y => y = h10.size) h11 h13 := C12.then C13 fun y e => .inr e
      have K13 : Keeps h10 h13 := K11.step C23 fun y e => by omega
      have D13 := D10.nar T10.up K13
      have G13 := G10.nar T10.up K13
      have V13 := Keeps.var T10.wf K13 V10
      have T13 := T10.keeps K13
      obtain ⟨_, _, _, _, _, u5⟩ := loadGrid U13
      obtain ⟨_, _, _, _, _, v5⟩ := loadGrid V13
      simp only [wk, wt, wl, ↓reduceIte, Nat.reduceEqDiff, Nat.reduceAdd, Nat.zero_add, not_false_eq_true, not_true_eq_false, gV, e11, pt, u3, u4, w3, w4, dr, dc, e12, e13, u5, v5]
      have SM := same_ok (X := { X with cells := (newX r c).cells, seq := [50], last := none, row := 0, col := 0 }) (Y := newX r c) D13 G13 sz.1.symm sz.2.symm rfl rfl rfl T2.len.2 T2.rt.len
      refine SM.use ?_
      rintro _ h14 ⟨rfl, K14⟩
      simp only [wk, wt, wl, ↓reduceIte, Nat.reduceEqDiff, Nat.reduceAdd, Nat.zero_add, not_false_eq_true, not_true_eq_false]
      refine (awake_ok ((T13.keeps K14).env.at)).use ?_
      rintro _ h15 ⟨rfl, K15⟩
      simp only [wk, wt, wl, ↓reduceIte, Nat.reduceEqDiff, Nat.reduceAdd, Nat.zero_add, not_false_eq_true, not_true_eq_false]
      exact N1.trans ((T13.keeps K14).env.k.trans K15)
    · have dw : (!decide (X.st = 0) || decide (X.held ≠ [])) = true := by
        by_cases h1 : X.st = 0
        · have h2 : X.held ≠ [] := fun e => hw ⟨h1, e⟩
          simp [h1, h2]
        · simp [h1]
      simp only [wk, wt, wl, ↓reduceIte, Nat.reduceEqDiff, Nat.reduceAdd, Nat.zero_add, not_false_eq_true, not_true_eq_false, dw]
      refine (awake_ok T5.env.at).use ?_
      rintro _ h6 ⟨rfl, K6⟩
      simp only [wk, wt, wl, ↓reduceIte, Nat.reduceEqDiff, Nat.reduceAdd, Nat.zero_add, not_false_eq_true, not_true_eq_false]
      exact N1.trans (T5.env.k.trans K6)
theorem termNone_law {h : Heap} {r c : Int} {bv : Value} (G : Gl h) : ACalls prog 9 #[szV r c, bv] h (fun y h' => y = .bool true ∧ Keeps h h') := by
  refine acalls_of_W' func9 rfl (by kernel_rfl) (by kernel_rfl) (by simp [ntmps9]) ?_
  intro H
  have N1 := Keeps.new H 23 [.int .i64 r, .int .i64 c]
  have V1 := Var.new (e := 23) H (cs := [.int .i64 r, .int .i64 c])
  have G1 := G.keeps N1
  simp only [szV]
  simp only [wk, wt, wl, ↓reduceIte, Nat.reduceEqDiff, Nat.reduceAdd, Nat.zero_add, not_false_eq_true, not_true_eq_false, aeff_box, boxV_size]
  generalize h.new 23 [.int .i64 r, .int .i64 c] = h1 at *
  obtain ⟨S0, S1⟩ := loadSize V1
  refine write_nil.use_pure ?_
  simp only [wk, wt, wl, ↓reduceIte, Nat.reduceEqDiff, Nat.reduceAdd, Nat.zero_add, not_false_eq_true, not_true_eq_false, S0, S1]
  refine resize_nil.use_pure ?_
  simp only [wk, wt, wl, ↓reduceIte, Nat.reduceEqDiff, Nat.reduceAdd, Nat.zero_add, not_false_eq_true, not_true_eq_false]
  refine grid_nil.use ?_
  rintro _ h2 ⟨rfl, K2⟩
  obtain ⟨h3, e3, V3, K3, z3⟩ := putGrid (Ch.wf K2) (r := 0) (c := 0) (v := .slice none 0 0) (y := 0) (x := 0) rfl
  obtain ⟨a0, _, a2, _⟩ := loadGrid V3
  have LN : abuiltin prog .len #[36] #[.slice none 0 0] = some (.int .i64 0) := by simp [abuiltin, underlying36]
  simp only [wk, wt, wl, ↓reduceIte, Nat.reduceEqDiff, Nat.reduceAdd, Nat.zero_add, not_false_eq_true, not_true_eq_false, e3, a0, a2, LN]
  refine shown_nil.use_pure ?_
  simp only [wk, wt, wl, ↓reduceIte, Nat.reduceEqDiff, Nat.reduceAdd, Nat.zero_add, not_false_eq_true, not_true_eq_false]
  refine attr_nil.use_pure ?_
  simp only [wk, wt, wl, ↓reduceIte, Nat.reduceEqDiff, Nat.reduceAdd, Nat.zero_add, not_false_eq_true, not_true_eq_false]
  refine waits_nil.use_pure ?_
  simp only [wk, wt, wl, ↓reduceIte, Nat.reduceEqDiff, Nat.reduceAdd, Nat.zero_add, not_false_eq_true, not_true_eq_false]
  have K13 := K2.trans K3
  refine (awake_ok (G1.keeps K13)).use ?_
  rintro _ h4 ⟨rfl, K4⟩
  simp only [wk, wt, wl, ↓reduceIte, Nat.reduceEqDiff, Nat.reduceAdd, Nat.zero_add, not_false_eq_true, not_true_eq_false]
  exact (N1.trans K13).trans K4
theorem termPieces_law {h : Heap} {r c a : Int} {bv : Value} {b : List Int} (G : Gl h) (R : RdI prog h .u8 bv b) (hb : ∀ x, x ∈ b → isB x) :
    ACalls prog 4 #[szV r c, bv, .int .i64 a] h (fun y h' => y = .bool true ∧ Keeps h h') := by
  refine acalls_of_W' func4 rfl (by kernel_rfl) (by kernel_rfl) (by simp [ntmps4]) ?_
  intro H
  have N1 := Keeps.new H 23 [.int .i64 r, .int .i64 c]
  have V1 := Var.new (e := 23) H (cs := [.int .i64 r, .int .i64 c])
  have R1 := R.keeps N1
  have G1 := G.keeps N1
  have O1 := oldFam H R
  have hlt : ∀ z, blkOf bv = some z → z < h.size := fun z hz => (R.blk_lt hz).1
  have PE := fun {a : Addr} => ptr_some (P := prog) (a := a) underlying25
  simp only [szV]
  simp only [wk, wt, wl, ↓reduceIte, Nat.reduceEqDiff, Nat.reduceAdd, Nat.zero_add, not_false_eq_true, not_true_eq_false, aeff_box, boxV_size]
  have O1 := O1.ch N1 hlt
  have O1 : Fam (h.new 23 [.int .i64 r, .int .i64 c]) (fun n => n < (h.new 23 [.int .i64 r, .int .i64 c]).size) bv := O1.mono fun n hn => Nat.lt_of_lt_of_le hn (Ch.le N1)
  have hlt : ∀ z, blkOf bv = some z → z < (h.new 23 [.int .i64 r, .int .i64 c]).size := fun z hz => (R1.blk_lt hz).1
  generalize h.new 23 [.int .i64 r, .int .i64 c] = h1 at *
  obtain ⟨S0, S1⟩ := loadSize V1
  simp only [wk, wt, wl, ↓reduceIte, Nat.reduceEqDiff, Nat.reduceAdd, Nat.zero_add, not_false_eq_true, not_true_eq_false, S0, S1]
  refine (few_ok R1).use ?_
  rintro _ hx ⟨⟨q, rfl, hq⟩, hh⟩
  have hh := hh.symm
  subst hh
  cases q with
  | false => simp only [wk, wt, wl, ↓reduceIte, Nat.reduceEqDiff, Nat.reduceAdd, Nat.zero_add, not_false_eq_true, not_true_eq_false, Bool.not_false]; exact N1
  | true =>
    have hbl := hq rfl
    simp only [wk, wt, wl, ↓reduceIte, Nat.reduceEqDiff, Nat.reduceAdd, Nat.zero_add, not_false_eq_true, not_true_eq_false, Bool.not_true]
    refine adraw_order [(0, false), (1, false), (2, false), (3, false), (5, false), (6, false), (7, false), (8, false), (4, true), (9, false), (10, false), (11, false)] mixed (by kernel_rfl) (by kernel_rfl) (by kernel_rfl) (by with_reducible repeat (first | exact PF_retK | refine PF_thenK ?_ | refine PF_blockK ?_)) ?_
    simp only [wk, wt, wl, ↓reduceIte, Nat.reduceEqDiff, Nat.reduceAdd, Nat.zero_add, not_false_eq_true, not_true_eq_false, dK_t, S0, S1]
    refine (newTT G1 (r := r) (c := c)).use ?_
    rintro _ h2 ⟨t, rfl, ht, T2, K2⟩
    refine ⟨fun _ => K2.reads (Ch.wf N1), ?_⟩
    have V2 := Keeps.var (Ch.wf N1) K2 V1
    obtain ⟨S0', S1'⟩ := loadSize V2
    simp only [wk, wt, wl, ↓reduceIte, Nat.reduceEqDiff, Nat.reduceAdd, Nat.zero_add, not_false_eq_true, not_true_eq_false, dK_t, S0', S1']
    refine (newTT (G1.keeps K2) (r := r) (c := c)).use ?_
    rintro _ h3 ⟨u, rfl, hu, U3, K3⟩
    refine ⟨fun _ => K3.reads (Ch.wf K2), ?_⟩
    have T3 := T2.keeps K3
    have U3 := U3.base G1 K2
    have dj3 : ∀ n, n < h3.size → Nar (fun n => h1.size ≤ n) h2.size h3.size n → ¬ (h2.size ≤ n) := fun n hn e => e.elim (fun e => by omega) fun e => by omega
    generalize Nar (fun n => h1.size ≤ n) h2.size h3.size = F at *
    generalize hGg : (fun n => h2.size ≤ n) = Gg at *
    have dj3 : ∀ n, n < h3.size → F n → ¬ Gg n := by rw [← hGg]; exact dj3
    have LB := R1.len underlying29
    obtain ⟨k, hk⟩ : ∃ k, imax 0 (imin a (b.length : Int)) = k := ⟨_, rfl⟩
    have hk0 : 0 ≤ k ∧ k ≤ (b.length : Int) := by
      have M1 := imin_spec a (b.length : Int)
      have M2 := imax_spec 0 (imin a (b.length : Int))
      omega
    simp only [wk, wt, wl, ↓reduceIte, Nat.reduceEqDiff, Nat.reduceAdd, Nat.zero_add, not_false_eq_true, not_true_eq_false, dK_t, pt, PE, LB, mnV, mxV, hk]
    have K13 := K2.trans K3
    refine (T3.write (R1.keeps K13) (T3.not (O1.ch K13 hlt)) hb (by omega)).use ?_
    rintro _ h4 ⟨rfl, T4, C4⟩
    have U4 := U3.aside C4 (fun n hn g e => dj3 n hn e g) T3.env.f
    have z4 := Ch.le C4
    have dj4 : ∀ n, n < h4.size → F n → ¬ Nar Gg h3.size h4.size n := fun n hn f e => e.elim (fun e => dj3 n e.2 f e.1) fun e => by omega
    have K14 := T4.env.k
    generalize Nar Gg h3.size h4.size = Gh at *
    have R4 := R1.keeps K14
    have S4 := R4.sliceHi underlying29 asz5 (q' := .i64) (j := k) hk0.1 hk0.2
    have P4 := R4.part (L := 0) (H := k.toNat) (by omega) (by omega)
    have Pb : ∀ (L H : Nat) (hh : Heap), Fam hh (fun n => n < h1.size) bv → Fam hh (fun n => n < h1.size) (sliceV bv 1 L H) := fun L H hh F z kk hz g => F z kk (by rw [sliceV_blk] at hz; exact hz) g
    simp only [List.drop_zero, Nat.sub_zero] at P4
    simp only [wk, wt, wl, ↓reduceIte, Nat.reduceEqDiff, Nat.reduceAdd, Nat.zero_add, not_false_eq_true, not_true_eq_false, pt, S4]
    refine (U4.write P4 (U4.not (Pb _ _ _ (O1.ch K14 hlt))) (fun x hx => hb x (List.mem_of_mem_take hx)) (by rw [List.length_take]; omega)).use ?_
    rintro _ h5 ⟨rfl, U5, C5⟩
    have T5 := T4.aside C5 dj4 U4.env.f
    have z5 := Ch.le C5
    have dj5 : ∀ n, n < h5.size → Nar F h4.size h5.size n → ¬ Gh n := fun n hn f e => f.elim (fun f => dj4 n f.2 f.1 e) fun f => by omega
    generalize Nar F h4.size h5.size = F5 at *
    have K15 := U5.env.k
    have R5 := R1.keeps K15
    have S5 := R5.sliceLo underlying29 asz5 (q := .i64) (i := k) hk0.1 hk0.2
    have P5 := R5.partLo (L := k.toNat) (by omega)
    simp only [wk, wt, wl, ↓reduceIte, Nat.reduceEqDiff, Nat.reduceAdd, Nat.zero_add, not_false_eq_true, not_true_eq_false, pt, S5]
    refine (U5.write P5 (U5.not (Pb _ _ _ (O1.ch K15 hlt))) (fun x hx => hb x (List.mem_of_mem_drop hx)) (by rw [List.length_drop]; omega)).use ?_
    rintro _ h6 ⟨rfl, U6, C6⟩
    have T6 := T5.aside C6 dj5 U5.env.f
    have z6 := Ch.le C6
    have e6 : writeX (writeX (newX r c) (b.take k.toNat)) (b.drop k.toNat) = writeX (newX r c) b := by rw [← writeX_app, List.take_append_drop]
    rw [e6] at U6
    generalize Nar F5 h5.size h6.size = F6 at *
    generalize writeX (newX r c) b = X at *
    simp only [wk, wt, wl, ↓reduceIte, Nat.reduceEqDiff, Nat.reduceAdd, Nat.zero_add, not_false_eq_true, not_true_eq_false, pt]
    refine T6.grid.use ?_
    rintro _ h7 ⟨cv, rfl, A7, T7, K7⟩
    have U7 := U6.keeps K7
    simp only [wk, wt, wl, ↓reduceIte, Nat.reduceEqDiff, Nat.reduceAdd, Nat.zero_add, not_false_eq_true, not_true_eq_false, pt]
    refine U7.grid.use ?_
    rintro _ h8 ⟨dv, rfl, B8, U8, K8⟩
    have A8 := A7.nar T7.up K8
    have T8 := T7.keeps K8
    simp only [wk, wt, wl, ↓reduceIte, Nat.reduceEqDiff, Nat.reduceAdd, Nat.zero_add, not_false_eq_true, not_true_eq_false]
    refine (same_ok (X := X) (Y := X) A8 B8 rfl rfl rfl rfl rfl T4.len.2 T4.rt.len).use ?_
    rintro _ h9 ⟨rfl, K9⟩
    have T9 := T8.keeps K9
    have U9 := U8.keeps K9
    have eb : ∀ q : Bool, abin prog .eql 4 (.bool q) (.bool q) = some (.bool true) := fun q => by cases q <;> simp [abin, aeq, underlying4]
    have ei : ∀ x : Int, decide (x = x) = true := fun x => decide_eq_true rfl
    simp only [wk, wt, wl, ↓reduceIte, Nat.reduceEqDiff, Nat.reduceAdd, Nat.zero_add, not_false_eq_true, not_true_eq_false]
    refine (waits_ok T9.pm).use_pure ?_
    simp only [wk, wt, wl, ↓reduceIte, Nat.reduceEqDiff, Nat.reduceAdd, Nat.zero_add, not_false_eq_true, not_true_eq_false]
    refine (waits_ok U9.pm).use_pure ?_
    simp only [wk, wt, wl, ↓reduceIte, Nat.reduceEqDiff, Nat.reduceAdd, Nat.zero_add, not_false_eq_true, not_true_eq_false, eb]
    refine (attr_ok T9.pm).use_pure ?_
    simp only [wk, wt, wl, ↓reduceIte, Nat.reduceEqDiff, Nat.reduceAdd, Nat.zero_add, not_false_eq_true, not_true_eq_false]
    refine (attr_ok U9.pm).use_pure ?_
    simp only [wk, wt, wl, ↓reduceIte, Nat.reduceEqDiff, Nat.reduceAdd, Nat.zero_add, not_false_eq_true, not_true_eq_false, ei]
    refine (shown_ok T9.pm).use_pure ?_
    simp only [wk, wt, wl, ↓reduceIte, Nat.reduceEqDiff, Nat.reduceAdd, Nat.zero_add, not_false_eq_true, not_true_eq_false]
    refine (shown_ok U9.pm).use_pure ?_
    simp only [wk, wt, wl, ↓reduceIte, Nat.reduceEqDiff, Nat.reduceAdd, Nat.zero_add, not_false_eq_true, not_true_eq_false, eb]
    refine (awake_ok T9.env.at).use ?_
    rintro _ h10 ⟨rfl, K10⟩
    simp only [wk, wt, wl, ↓reduceIte, Nat.reduceEqDiff, Nat.reduceAdd, Nat.zero_add, not_false_eq_true, not_true_eq_false]
    exact N1.trans (T9.env.k.trans K10)
end Go.Proofs.YtefpalmihdbmiaaDoor.Am
end
section
/- A terminal in plain terms: going to a place, typing runes that have room; no program in sight. -/
set_option linter.unusedSimpArgs false
set_option linter.unusedVariables false
set_option maxHeartbeats 4000000
namespace Go.Proofs.YtefpalmihdbmiaaDoor.Am
open Go Go.RowKit Go.Proofs.Tryd
/-- A number's digits. -/
def digF : Nat → Int → List Int
  | 0, n => [48 + n]
  | k + 1, n => if n < 10 then [48 + n] else digF k (n / 10) ++ [48 + n % 10]
theorem digF_numsGo : ∀ (k : Nat) (n : Int) (l rest : List Int), 0 ≤ n → n ≤ 9999 → n < 10 ^ (k + 1) → numsGo l 0 (digF k n ++ rest) = numsGo l n rest
  | 0, n, l, rest, h0, h1, h2 => by
    have h2 : n < 10 := by simpa using h2
    have M := imin_spec (0 * 10 + (48 + n - 48)) 9999
    simp only [digF, List.cons_append, List.nil_append, numsGo]
    rw [if_neg (by omega), if_pos (by omega)]
    congr 1; omega
  | k + 1, n, l, rest, h0, h1, h2 => by
    unfold digF
    by_cases h : n < 10
    · have M := imin_spec (0 * 10 + (48 + n - 48)) 9999
      rw [if_pos h]
      simp only [List.cons_append, List.nil_append, numsGo]
      rw [if_neg (by omega), if_pos (by omega)]
      congr 1; omega
    · rw [if_neg h, List.append_assoc, digF_numsGo k (n / 10) l _ (by omega) (by omega) (by rw [Int.pow_succ] at h2; omega)]
      have M := imin_spec (n / 10 * 10 + (48 + n % 10 - 48)) 9999
      simp only [List.cons_append, List.nil_append, numsGo]
      rw [if_neg (by omega), if_pos (by omega)]
      congr 1; omega
theorem digF_len : ∀ (k : Nat) (n : Int), (digF k n).length ≤ k + 1 ∧ 1 ≤ (digF k n).length
  | 0, n => by simp [digF]
  | k + 1, n => by
    unfold digF
    split
    · simp
    · have := digF_len k (n / 10)
      simp; omega
theorem digF_bd : ∀ (k : Nat) (n : Int), 0 ≤ n → n < 10 ^ (k + 1) → ∀ x, x ∈ digF k n → 48 ≤ x ∧ x ≤ 57
  | 0, n, h0, h1, x, hx => by
    have h1 : n < 10 := by simpa using h1
    simp [digF] at hx; omega
  | k + 1, n, h0, h1, x, hx => by
    unfold digF at hx
    split at hx
    · simp at hx; omega
    · rcases List.mem_append.1 hx with hx | hx
      · exact digF_bd k (n / 10) (by omega) (by rw [Int.pow_succ] at h1; omega) x hx
      · simp at hx; omega
theorem seqBytes : ∀ (bs : List Int) (X : TX), X.st = 2 → (∀ x, x ∈ bs → 32 ≤ x ∧ x ≤ 63) → X.seq.length + bs.length ≤ 32 → writeX X bs = { X with seq := X.seq ++ bs }
  | [], X, h2, hb, hl => by simp [writeX]
  | b :: bs, X, h2, hb, hl => by
    have h1 := hb b List.mem_cons_self
    simp only [List.length_cons] at hl
    have e : stepX X b = { X with seq := X.seq ++ [b] } := by
      unfold stepX; rw [if_neg (by omega), if_pos h2, if_pos h1, if_pos (by omega)]
    show writeX (stepX X b) bs = _
    rw [e, seqBytes bs { X with seq := X.seq ++ [b] } h2 (fun x hx => hb x (List.mem_cons_of_mem _ hx)) (by simp; omega)]
    simp
def atL (a b : Int) : List Int := [27, 91] ++ (digF 3 a ++ ([59] ++ (digF 3 b ++ [72])))
theorem gotoX {X : TX} {a b : Int} (h0 : X.st = 0) (hh : X.held = []) (ha : 1 ≤ a ∧ a ≤ 9999) (hb : 1 ≤ b ∧ b ≤ 9999) : ∃ s, writeX X (atL a b) = { moveX X (a - 1) (b - 1) with last := none, seq := s } := by
  obtain ⟨rows, cols, cells, row, col, attr, hid, last, st, seq, held⟩ := X
  simp only at h0 hh
  subst h0; subst hh
  have l1 := digF_len 3 a
  have l2 := digF_len 3 b
  have d1 := digF_bd 3 a (by omega) (by omega)
  have d2 := digF_bd 3 b (by omega) (by omega)
  unfold atL
  rw [writeX_app]
  have e1 : writeX ⟨rows, cols, cells, row, col, attr, hid, last, 0, seq, []⟩ [27, 91] = ⟨rows, cols, cells, row, col, attr, hid, none, 2, [], []⟩ := rfl
  rw [e1, show digF 3 a ++ ([59] ++ (digF 3 b ++ [72])) = (digF 3 a ++ ([59] ++ digF 3 b)) ++ [72] by simp, writeX_app, seqBytes (digF 3 a ++ ([59] ++ digF 3 b)) ⟨rows, cols, cells, row, col, attr, hid, none, 2, [], []⟩ rfl (fun x hx => by
    rcases List.mem_append.1 hx with hx | hx
    · have := d1 x hx; omega
    · rcases List.mem_append.1 hx with hx | hx
      · simp at hx; omega
      · have := d2 x hx; omega) (by simp; omega)]
  simp only [List.nil_append]
  generalize hs : digF 3 a ++ ([59] ++ digF 3 b) = s
  have hask : asksB s = false := by
    rw [← hs]
    cases hd : digF 3 a with
    | nil => rw [hd] at l1; simp at l1
    | cons y t =>
      have := d1 y (by rw [hd]; simp)
      simp [asksB]; omega
  have hn : numsGo [] 0 s = some [a, b] := by
    rw [← hs, digF_numsGo 3 a [] _ (by omega) (by omega) (by omega)]
    have e : numsGo [] a ([59] ++ digF 3 b) = numsGo [a] 0 (digF 3 b ++ []) := by simp [numsGo]
    rw [e, digF_numsGo 3 b [a] [] (by omega) (by omega) (by omega)]
    simp [numsGo]
  refine ⟨s, ?_⟩
  have e2 : writeX ⟨rows, cols, cells, row, col, attr, hid, none, 2, s, []⟩ [72] = { seqX ⟨rows, cols, cells, row, col, attr, hid, none, 2, s, []⟩ s 72 with st := 0 } := rfl
  rw [e2]
  have M1 := imax_spec a 1
  have M2 := imax_spec b 1
  have e3 : seqX ⟨rows, cols, cells, row, col, attr, hid, none, 2, s, []⟩ s 72 = moveX ⟨rows, cols, cells, row, col, attr, hid, none, 2, s, []⟩ (a - 1) (b - 1) := by
    unfold seqX
    rw [hask]
    simp only [Bool.false_eq_true, if_false, hn]
    simp [doX]
    rw [show imax a 1 = a by omega, show imax b 1 = b by omega]
  rw [e3]
  rfl
/-- Bytes that are typed come to the runes that they are. -/
theorem writeX_fed : ∀ (bs : List Int) (X : TX) (l s : List Int), X.st = 0 → (∀ b, b ∈ bs → 32 ≤ b ∧ b ≠ 127) → nextZ X.held = none → Fed (X.held ++ bs) l s → writeX X bs = { l.foldl putX X with held := s }
  | [], X, l, s, h0, hb, hn, F => by
    rw [List.append_nil] at F
    obtain ⟨rfl, rfl⟩ := Fed.det F (.done hn)
    rfl
  | b :: bs, X, l, s, h0, hb, hn, F => by
    have h1 := hb b List.mem_cons_self
    have e : stepX X b = feedX X b := by unfold stepX; rw [if_neg (by omega), if_neg (by omega), if_pos h1]
    show writeX (stepX X b) bs = _
    rw [e]
    have F1 := fedN_fed (X.held.length + 1) (X.held ++ [b]) (by simp)
    have hfe : feedX X b = { (fedN (X.held.length + 1) (X.held ++ [b])).1.foldl putX X with held := (fedN (X.held.length + 1) (X.held ++ [b])).2 } := rfl
    rw [hfe]
    generalize (fedN (X.held.length + 1) (X.held ++ [b])).1 = l1 at *
    generalize (fedN (X.held.length + 1) (X.held ++ [b])).2 = s1 at *
    obtain ⟨l2, s2, F2⟩ : ∃ l2 s2, Fed (s1 ++ bs) l2 s2 := ⟨_, _, fedN_fed (s1 ++ bs).length (s1 ++ bs) (Nat.le_refl _)⟩
    have F3 := Fed.app (b := bs) F1 F2
    rw [List.append_assoc] at F3
    obtain ⟨e1, e2⟩ := Fed.det F F3
    subst e1; subst e2
    rw [writeX_fed bs { l1.foldl putX X with held := s1 } l2 s (foldl_st.trans h0) (fun y hy => hb y (List.mem_cons_of_mem _ hy)) F1.bound.2.2.2 F2, foldl_held, List.foldl_append]
theorem show_valid {r : Int} (h : showL r = [r]) : validB r = true ∧ (32 ≤ r ∨ r < 0) ∧ r ≠ 127 := by
  unfold showL at h
  split at h
  · split at h <;> simp at h
  · rename_i hc
    have hc : ctlB r = false := by simpa using hc
    simp [ctlB] at hc
    split at h
    · rename_i hv
      have : r = 65533 := by simpa using h.symm
      subst this
      exact ⟨rfl, by omega, by omega⟩
    · rename_i hv
      exact ⟨by cases hb : validB r with
        | true => rfl
        | false => exact absurd (.inr hb) hv, by omega, by omega⟩
theorem encL_high {l : List Int} (h : ∀ r, r ∈ l → showL r = [r]) : ∀ b, b ∈ encL l → 32 ≤ b ∧ b ≠ 127 := fun b hb => by
  obtain ⟨r, hr, hb⟩ := List.mem_flatMap.1 hb
  obtain ⟨h1, h2, h3⟩ := show_valid (h r hr)
  have hv : (0 ≤ r ∧ r < 55296) ∨ (57343 < r ∧ r ≤ 1114111) := by simpa [validB] using h1
  unfold encR fixR at hb
  rw [if_pos h1] at hb
  unfold encV at hb
  split at hb
  · simp at hb; omega
  · split at hb
    · simp at hb; omega
    · split at hb
      · simp at hb; omega
      · simp at hb; omega
theorem fix_map : ∀ {l : List Int}, (∀ r, r ∈ l → showL r = [r]) → l.map fixR = l
  | [], _ => rfl
  | r :: l, h => by
    rw [List.map_cons, fix_map fun y hy => h y (List.mem_cons_of_mem _ hy)]
    congr 1
    unfold fixR; rw [if_pos (show_valid (h r List.mem_cons_self)).1]
/-- Runes that are typed. -/
theorem writeX_runes {X : TX} {l : List Int} (h0 : X.st = 0) (hh : X.held = []) (h : ∀ r, r ∈ l → showL r = [r]) : writeX X (encL l) = { l.foldl putX X with held := [] } := by
  refine writeX_fed _ X l [] h0 (encL_high h) (by rw [hh]; rfl) ?_
  rw [hh, List.nil_append]
  have F := Fed.enc (b := []) (l := []) (s := []) (.done rfl) l
  rwa [List.append_nil, List.append_nil, fix_map h] at F
def layC (r : Int) : List Cel := if widthZ r = 2 then [⟨[r], 0, true⟩, ⟨[], 0, false⟩] else [⟨[r], 0, false⟩]
def layL (l : List Int) : List Cel := l.flatMap layC
theorem layC_len {r : Int} (h : widthZ r ≠ 0) : ((layC r).length : Int) = widthZ r := by
  have := widthZ_le r
  unfold layC
  split
  · rename_i e; rw [e]; rfl
  · simp; omega
theorem wipe_blank {l : List Cel} {i w : Nat} (hw : 0 < w) (h : ∀ j, i ≤ j → j < i + w → l[j]? = some (bl 0)) : wipeL l i (i + w) = l := by
  have g1 := getD_at (h i (Nat.le_refl _) (by omega)) (d := bl 0)
  have g2 := getD_at (h (i + w - 1) (by omega) (by omega)) (d := bl 0)
  unfold wipeL
  rw [if_pos (by omega), g1, g2, if_neg bl_tx, if_neg (by simp [bl])]
  refine List.ext_getElem? fun j => ?_
  rw [setB_at]
  by_cases hj : i ≤ j ∧ j < i + w
  · rw [h j hj.1 hj.2]; simp [hj]
  · cases l[j]? with
    | none => rfl
    | some c => simp only [Option.map_some]; rw [if_neg hj]
theorem typeX : ∀ (l : List Int) (X : TX) (pre : List Cel) (m : Nat), X.cells = pre ++ List.replicate m (bl 0) → X.attr = 0 → (l = [] ∨ (X.row * X.cols + X.col = (pre.length : Int) ∧ X.col + ((layL l).length : Int) ≤ X.cols)) → 0 ≤ X.col → X.col ≤ X.cols - 1 → (layL l).length ≤ m → (∀ r, r ∈ l → showL r = [r] ∧ widthZ r ≠ 0) →
    (l.foldl putX X).cells = pre ++ (layL l ++ List.replicate (m - (layL l).length) (bl 0)) ∧ (l.foldl putX X).row = X.row ∧ (l.foldl putX X).col = imin (X.col + ((layL l).length : Int)) (X.cols - 1) ∧ (l.foldl putX X).rows = X.rows ∧ (l.foldl putX X).cols = X.cols
  | [], X, pre, m, hc, ha, hp, h0, h1, hm, hl => by
    have M := imin_spec (X.col + (0 : Int)) (X.cols - 1)
    refine ⟨by simpa [layL] using hc, rfl, ?_, rfl, rfl⟩
    show X.col = imin (X.col + ((([] : List Cel).length : Nat) : Int)) (X.cols - 1)
    simp only [List.length_nil, Int.ofNat_zero, Int.cast_ofNat_Int] at M ⊢
    omega
  | r :: l, X, pre, m, hc, ha, hp, h0, h1, hm, hl => by
    obtain ⟨hs, hw⟩ := hl r List.mem_cons_self
    have hp := hp.resolve_left (by simp)
    have hlen := layC_len hw
    have hwl := widthZ_le r
    have hL : layL (r :: l) = layC r ++ layL l := rfl
    rw [hL, List.length_append] at hm hp ⊢
    obtain ⟨w, ew⟩ : ∃ w : Nat, widthZ r = (w : Int) := ⟨(widthZ r).toNat, by omega⟩
    have hwn : (layC r).length = w := by omega
    have hput : putX X r = putAt X r (w : Int) := by unfold putX; rw [if_neg (fun e => e hs), if_neg hw, ew]
    have M1 := imin_spec X.col (X.cols - (w : Int))
    have hcol : imin X.col (X.cols - (w : Int)) = X.col := by omega
    have hi : (X.row * X.cols + X.col).toNat = pre.length := by omega
    have M3 := clampZ_bd (x := X.col + (w : Int)) (n := X.cols) (by omega)
    have hclamp : clampZ (X.col + (w : Int)) X.cols = imin (X.col + (w : Int)) (X.cols - 1) := by
      have M4 := imax_spec (X.col + (w : Int)) 0
      unfold clampZ; rw [show imax (X.col + (w : Int)) 0 = X.col + (w : Int) by omega]
    have hwb : wipeL X.cells pre.length (pre.length + w) = X.cells := wipe_blank (by omega) fun j j1 j2 => by
      rw [hc, List.getElem?_append_right j1, List.getElem?_replicate, if_pos (by omega)]
    have hcells : (putX X r).cells = (pre ++ layC r) ++ List.replicate (m - w) (bl 0) := by
      rw [hput]
      simp only [putAt, hcol, hi, Int.toNat_natCast, hwb, ha]
      rw [hc]
      obtain ⟨m1, rfl⟩ : ∃ m1, m = m1 + 1 := ⟨m - 1, by omega⟩
      have s1 : ∀ c : Cel, (pre ++ List.replicate (m1 + 1) (bl 0)).set pre.length c = pre ++ c :: List.replicate m1 (bl 0) := fun c => by
        rw [List.set_append_right _ _ (Nat.le_refl _), Nat.sub_self]; rfl
      rw [s1]
      by_cases h2 : (w : Int) = 2
      · have hw2 : w = 2 := by omega
        subst hw2
        obtain ⟨m2, rfl⟩ : ∃ m2, m1 = m2 + 1 := ⟨m1 - 1, by omega⟩
        have hl2 : layC r = [⟨[r], 0, true⟩, ⟨[], 0, false⟩] := by unfold layC; rw [if_pos (by rw [ew]; rfl)]
        rw [if_pos h2, hl2, List.set_append_right _ _ (by omega), show pre.length + 1 - pre.length = 1 by omega]
        simp [List.replicate_succ]
      · have hl2 : layC r = [⟨[r], 0, false⟩] := by unfold layC; rw [if_neg (by rw [ew]; exact h2)]
        have hw1 : w = 1 := by omega
        subst hw1
        rw [if_neg h2, hl2]
        simp
    have hrow : (putX X r).row = X.row ∧ (putX X r).cols = X.cols ∧ (putX X r).rows = X.rows ∧ (putX X r).attr = X.attr ∧ (putX X r).col = imin (X.col + (w : Int)) (X.cols - 1) := by
      rw [hput]
      simp only [putAt, hcol]
      exact ⟨trivial, trivial, trivial, trivial, hclamp⟩
    obtain ⟨r1, r2, r3, r4, r5⟩ := hrow
    have M5 := imin_spec (X.col + (w : Int)) (X.cols - 1)
    have hl0 : l = [] ∨ 1 ≤ (layL l).length := by
      cases l with
      | nil => exact .inl rfl
      | cons y t =>
        have hy := hl y (by simp)
        have := layC_len hy.2
        have := widthZ_le y
        refine .inr ?_
        show 1 ≤ (layC y ++ layL t).length
        rw [List.length_append]; omega
    have key : l = [] ∨ ((putX X r).row * (putX X r).cols + (putX X r).col = ((pre ++ layC r).length : Int) ∧ (putX X r).col + ((layL l).length : Int) ≤ (putX X r).cols) := by
      rcases hl0 with e | e
      · exact .inl e
      · refine .inr ?_
        rw [r1, r2, r5, List.length_append]
        refine ⟨?_, ?_⟩ <;> omega
    have ih := typeX l (putX X r) (pre ++ layC r) (m - w) hcells (by rw [r4]; exact ha) key (by omega) (by omega) (by omega) fun y hy => hl y (List.mem_cons_of_mem _ hy)
    rw [List.foldl_cons]
    obtain ⟨i1, i2, i3, i4, i5⟩ := ih
    refine ⟨?_, i2.trans r1, ?_, i4.trans r3, i5.trans r2⟩
    · rw [i1, hwn, List.append_assoc, List.append_assoc, Nat.sub_sub]
    · rw [i3, r2, r5, hwn]
      have M6 := imin_spec (imin (X.col + (w : Int)) (X.cols - 1) + ((layL l).length : Int)) (X.cols - 1)
      have M7 := imin_spec (X.col + ((w + (layL l).length : Nat) : Int)) (X.cols - 1)
      rcases hl0 with e | e
      · subst e
        simp only [layL, List.flatMap_nil, List.length_nil] at M6 M7 ⊢
        omega
      · omega
end Go.Proofs.YtefpalmihdbmiaaDoor.Am
end
section
/- The document's terminal as it lies in memory, step by step. -/
set_option linter.unusedSimpArgs false
set_option linter.unusedVariables false
set_option maxHeartbeats 4000000
set_option maxRecDepth 20000
namespace Go.Proofs.YtefpalmihdbmiaaDoor.Am
open Go Go.RowKit Go.Proofs.Tryd
def lastZ : Option Nat → Int
  | none => -1
  | some i => (i : Int)
def dF (X : TX) (cv sv rv : Value) : List Value := [.int .i64 X.rows, .int .i64 X.cols, cv, .int .i64 X.row, .int .i64 X.col, .int .i64 X.attr, .bool X.hid, .int .i64 (lastZ X.last), .int .i64 (X.st : Int), sv, rv]
def MM (C S R : Nat → Prop) (x n : Nat) : Prop := C n ∨ S n ∨ R n ∨ n = x
/-- The document's terminal: block x; its cells cv (of the families C), its sequence sv (of S), its held bytes rv (of R). -/
structure DX (h : Heap) (Fs : Nat → Prop) (x : Nat) (X : TX) (cv sv rv : Value) (ps : List PC) (C S R : Nat → Prop) : Prop where
  var : Var h x (dF X cv sv rv)
  gp : GP h Fs (MM C S R x) cv X.cells ps
  so : OwnR prog h 1 sv X.seq.length (X.seq.map (Value.int .u8))
  ro : OwnR prog h 1 rv X.held.length (X.held.map (Value.int .u8))
  fc : Fam h C cv
  fs : Fam h S sv
  fr : Fam h R rv
  cs : ∀ n, C n → ¬ S n
  cr : ∀ n, C n → ¬ R n
  sr : ∀ n, S n → ¬ R n
  cx : ¬ C x
  sx : ¬ S x
  rx : ¬ R x
  ml : ∀ n, MM C S R x n → n < h.size
  mF : ∀ n, MM C S R x n → Fs n
  up : ∀ n, h.size ≤ n → Fs n
section
variable {h h' h1 : Heap} {Fs Gs A B D : Nat → Prop} {x f0 : Nat} {X X' : TX} {v cv sv rv cv' sv' rv' tv : Value} {ps ps' : List PC} {C S R : Nat → Prop} {l : List Cel} {s n : Nat} {cs : List Value}
theorem keepRow (O : OwnR prog h s v n cs) (F : Fam h A v) (K : Ch (Rg B h) h h') (hd : ∀ n, A n → ¬ B n) : OwnR prog h' s v n cs ∧ Fam h' A v :=
  ⟨Ch.ownR K O (F.apart hd), F.ch K fun z hz => (O.1.blk_lt hz).1⟩
theorem keepVar (H : Wf h) (V : Var h x cs) (K : Ch (Rg B h) h h') (hx : ¬ B x) : Var h' x cs := Ch.var H K V (V.apart hx)
theorem DX.clt (Q : DX h Fs x X cv sv rv ps C S R) : ∀ y, blkOf cv = some y → y < h.size := Q.gp.lt
theorem DX.slt (Q : DX h Fs x X cv sv rv ps C S R) : ∀ y, blkOf sv = some y → y < h.size := fun y hy => (Q.so.1.blk_lt hy).1
theorem DX.rlt (Q : DX h Fs x X cv sv rv ps C S R) : ∀ y, blkOf rv = some y → y < h.size := fun y hy => (Q.ro.1.blk_lt hy).1
theorem DX.xl (Q : DX h Fs x X cv sv rv ps C S R) : x < h.size := Q.ml x (.inr (.inr (.inr rfl)))
theorem Ch.varRg (V : Var h x cs) (K : Ch (fun y => y = x) h h') : Ch (Rg (fun n => n = x) h) h h' := K.mono fun y e => by subst e; exact V.rg rfl
theorem DX.dirt (Q : DX h Fs x X cv sv rv ps C S R) (K : Ch (Rg B h) h h') (hB : ∀ n, B n → MM C S R x n) : Ch (Rg Fs h) h h' := K.mono fun y r => r.mono fun n hn => Q.mF n (hB n hn)
/-- A field of its own was written. -/
theorem DX.own (Q : DX h Fs x X cv sv rv ps C S R) (H : Wf h) (K0 : Ch (fun y => y = x) h h') (V : Var h' x (dF X' cv sv rv)) (e1 : X'.cells = X.cells) (e2 : X'.held = X.held) (e3 : X'.seq = X.seq) : DX h' Fs x X' cv sv rv ps C S R ∧ Ch (Rg Fs h) h h' := by
  have K := Ch.varRg Q.var K0
  have hle := Ch.le K
  obtain ⟨s1, s2⟩ := keepRow Q.so Q.fs K fun n a b => Q.sx (by rw [← b]; exact a)
  obtain ⟨r1, r2⟩ := keepRow Q.ro Q.fr K fun n a b => Q.rx (by rw [← b]; exact a)
  refine ⟨⟨V, by rw [e1]; exact Q.gp.ch K (fun y r => r.mono fun n e => .inr (.inr (.inr e))) (Q.fc.apart fun n a b => Q.cx (by rw [← b]; exact a)), by rw [e3]; exact s1, by rw [e2]; exact r1, Q.fc.ch K Q.clt, s2, r2, Q.cs, Q.cr, Q.sr, Q.cx, Q.sx, Q.rx, fun n hn => Nat.lt_of_lt_of_le (Q.ml n hn) hle, Q.mF, fun n hn => Q.up n (by omega)⟩, Q.dirt K fun n e => .inr (.inr (.inr e))⟩
theorem DX.keeps (Q : DX h Fs x X cv sv rv ps C S R) (H : Wf h) (K : Keeps h h') : DX h' Fs x X cv sv rv ps C S R :=
  ⟨Keeps.var H K Q.var, Q.gp.keeps K, Q.so.keeps K, Q.ro.keeps K, Q.fc.ch K Q.clt, Q.fs.ch K Q.slt, Q.fr.ch K Q.rlt, Q.cs, Q.cr, Q.sr, Q.cx, Q.sx, Q.rx, fun n hn => Nat.lt_of_lt_of_le (Q.ml n hn) (Ch.le K), Q.mF, fun n hn => Q.up n (Nat.le_trans (Ch.le K) hn)⟩
/-- Cells were written. -/
theorem DX.cells (Q : DX h Fs x X cv sv rv ps C S R) (H : Wf h) (K0 : Ch (FamV h cv) h h') (G : GP h' Fs (MM C S R x) cv l ps') : DX h' Fs x { X with cells := l } cv sv rv ps' C S R ∧ Ch (Rg Fs h) h h' := by
  have K : Ch (Rg C h) h h' := K0.mono fun y d => FamV.rg Q.fc d
  have hle := Ch.le K
  obtain ⟨s1, s2⟩ := keepRow Q.so Q.fs K fun n a b => Q.cs n b a
  obtain ⟨r1, r2⟩ := keepRow Q.ro Q.fr K fun n a b => Q.cr n b a
  exact ⟨⟨keepVar H Q.var K Q.cx, G, s1, r1, Q.fc.ch K Q.clt, s2, r2, Q.cs, Q.cr, Q.sr, Q.cx, Q.sx, Q.rx, fun n hn => Nat.lt_of_lt_of_le (Q.ml n hn) hle, Q.mF, fun n hn => Q.up n (by omega)⟩, Q.dirt K fun n e => .inl e⟩
/-- A new row is none of the written memory. -/
theorem DX.fresh (Q : DX h Fs x X cv sv rv ps C S R) (K : Keeps h h') (hz : ∀ z, blkOf tv = some z → h.size ≤ z) : Fam h' (Off Fs (MM C S R x)) tv :=
  (Fam.freshK K hz).mono fun n hn => ⟨Q.up n hn.1, fun m => by have := Q.ml n m; omega⟩
/-- The families of a row that was grown, or of another one. -/
theorem grownFam (Q : DX h Fs x X cv sv rv ps C S R) (K : Ch (Rg (fun n => A n ∨ n = x) h) h h') (V : Var h' x cs) (hb : ∀ z, blkOf tv = some z → h.size ≤ z ∨ blkOf v = some z) (F : Fam h A v) (hlt : ∀ z, blkOf v = some z → z < h.size) : Fam h' (fun n => A n ∨ h.size ≤ n ∧ n < h'.size) tv := fun z k hz g => by
  rcases hb z hz with h1 | h1
  · have hle := (Ch.wf K).2 z k g
    have hlt2 := (Ch.wf K).lt g
    rcases K.2.2.2.1 z k h1 g with h2 | ⟨y, k0, ⟨k1, g1, f1⟩, g0, e⟩
    · exact .inr ⟨h2, by omega⟩
    · rw [g0] at g1; cases g1
      rcases f1 with f1 | f1
      · exact .inl (by rw [e]; exact f1)
      · obtain ⟨kx, gx, _, _, _, _, alone⟩ := V
        exact absurd (e.trans f1) (alone z k (by have := Q.xl; omega) g)
  · obtain ⟨k0, g0, e⟩ := K.2.2.2.2.1 z k (hlt z h1) g
    exact .inl (by rw [e]; exact F z k0 h1 g0)
/-- Its sequence is another row. -/
theorem DX.seqN (Q : DX h Fs x X cv sv rv ps C S R) (H : Wf h) (K : Ch (Rg (fun n => S n ∨ n = x) h) h h') (V : Var h' x (dF X' cv sv' rv)) (O : OwnR prog h' 1 sv' X'.seq.length (X'.seq.map (Value.int .u8))) (hb : ∀ z, blkOf sv' = some z → h.size ≤ z ∨ blkOf sv = some z) (e1 : X'.cells = X.cells) (e2 : X'.held = X.held) :
    (∃ S', DX h' Fs x X' cv sv' rv ps C S' R) ∧ Ch (Rg Fs h) h h' := by
  have hle := Ch.le K
  have F := grownFam Q K V hb Q.fs Q.slt
  obtain ⟨r1, r2⟩ := keepRow Q.ro Q.fr K fun n a b => b.elim (fun b => Q.sr n b a) fun b => Q.rx (by rw [← b]; exact a)
  have hm : ∀ n, MM C (fun n => S n ∨ h.size ≤ n ∧ n < h'.size) R x n → MM C S R x n ∨ h.size ≤ n ∧ n < h'.size := fun n m => by
    rcases m with m | (m | m) | m | m
    · exact .inl (.inl m)
    · exact .inl (.inr (.inl m))
    · exact .inr m
    · exact .inl (.inr (.inr (.inl m)))
    · exact .inl (.inr (.inr (.inr m)))
  have G1 := Q.gp.more (Ms' := MM C (fun n => S n ∨ h.size ≤ n ∧ n < h'.size) R x) H fun n hn m => (hm n m).resolve_right fun m => by omega
  have G2 := G1.ch K (fun y r => r.mono fun n b => b.elim (fun b => .inr (.inl (.inl b))) fun b => .inr (.inr (.inr b))) (Q.fc.apart fun n a b => b.elim (fun b => Q.cs n a b) fun b => Q.cx (by rw [← b]; exact a))
  refine ⟨⟨_, V, by rw [e1]; exact G2, O, by rw [e2]; exact r1, Q.fc.ch K Q.clt, F, r2, fun n c s => s.elim (Q.cs n c) fun s => ?_, Q.cr, fun n s r => s.elim (fun s => Q.sr n s r) fun s => ?_, Q.cx, fun s => s.elim Q.sx fun s => ?_, Q.rx, fun n m => ?_, fun n m => ?_, fun n hn => Q.up n (by omega)⟩, Q.dirt K fun n b => b.elim (fun b => .inr (.inl b)) fun b => .inr (.inr (.inr b))⟩
  · have := Q.ml n (.inl c); omega
  · have := Q.ml n (.inr (.inr (.inl r))); omega
  · have := Q.xl; omega
  · rcases hm n m with m | m
    · have := Q.ml n m; omega
    · exact m.2
  · rcases hm n m with m | m
    · exact Q.mF n m
    · exact Q.up n m.1
/-- Its held bytes are another row. -/
theorem DX.heldN (Q : DX h Fs x X cv sv rv ps C S R) (H : Wf h) (K : Ch (Rg (fun n => R n ∨ n = x) h) h h') (V : Var h' x (dF X' cv sv rv')) (O : OwnR prog h' 1 rv' X'.held.length (X'.held.map (Value.int .u8))) (hb : ∀ z, blkOf rv' = some z → h.size ≤ z ∨ blkOf rv = some z) (e1 : X'.cells = X.cells) (e3 : X'.seq = X.seq) :
    (∃ R', DX h' Fs x X' cv sv rv' ps C S R') ∧ Ch (Rg Fs h) h h' := by
  have hle := Ch.le K
  have F := grownFam Q K V hb Q.fr Q.rlt
  obtain ⟨r1, r2⟩ := keepRow Q.so Q.fs K fun n a b => b.elim (fun b => Q.sr n a b) fun b => Q.sx (by rw [← b]; exact a)
  have hm : ∀ n, MM C S (fun n => R n ∨ h.size ≤ n ∧ n < h'.size) x n → MM C S R x n ∨ h.size ≤ n ∧ n < h'.size := fun n m => by
    rcases m with m | m | (m | m) | m
    · exact .inl (.inl m)
    · exact .inl (.inr (.inl m))
    · exact .inl (.inr (.inr (.inl m)))
    · exact .inr m
    · exact .inl (.inr (.inr (.inr m)))
  have G1 := Q.gp.more (Ms' := MM C S (fun n => R n ∨ h.size ≤ n ∧ n < h'.size) x) H fun n hn m => (hm n m).resolve_right fun m => by omega
  have G2 := G1.ch K (fun y r => r.mono fun n b => b.elim (fun b => .inr (.inr (.inl (.inl b)))) fun b => .inr (.inr (.inr b))) (Q.fc.apart fun n a b => b.elim (fun b => Q.cr n a b) fun b => Q.cx (by rw [← b]; exact a))
  refine ⟨⟨_, V, by rw [e1]; exact G2, by rw [e3]; exact r1, O, Q.fc.ch K Q.clt, r2, F, Q.cs, fun n c s => s.elim (Q.cr n c) fun s => ?_, fun n s r => r.elim (fun r => Q.sr n s r) fun r => ?_, Q.cx, Q.sx, fun s => s.elim Q.rx fun s => ?_, fun n m => ?_, fun n m => ?_, fun n hn => Q.up n (by omega)⟩, Q.dirt K fun n b => b.elim (fun b => .inr (.inr (.inl b))) fun b => .inr (.inr (.inr b))⟩
  · have := Q.ml n (.inl c); omega
  · have := Q.ml n (.inr (.inl s)); omega
  · have := Q.xl; omega
  · rcases hm n m with m | m
    · have := Q.ml n m; omega
    · exact m.2
  · rcases hm n m with m | m
    · exact Q.mF n m
    · exact Q.up n m.1
/-- It has other cells. -/
theorem DX.regrid (Q : DX h Fs x X cv sv rv ps C S R) (H : Wf h) (K1 : Keeps h h1) (G : GP h1 (fun n => h.size ≤ n) (fun n => n = f0) cv' l ps') (F : Fam h1 (fun n => n = f0) cv') (hf : h.size ≤ f0 ∧ f0 < h1.size) (K0 : Ch (fun y => y = x) h1 h') (V : Var h' x (dF X' cv' sv rv)) (e1 : X'.cells = l) (e2 : X'.held = X.held) (e3 : X'.seq = X.seq) :
    DX h' Fs x X' cv' sv rv ps' (fun n => n = f0) S R ∧ Ch (Rg Fs h) h h' := by
  have Q1 := Q.keeps H K1
  have H1 := Ch.wf K1
  have K := Ch.varRg Q1.var K0
  have hle := Ch.le K
  have hle1 := Ch.le K1
  obtain ⟨s1, s2⟩ := keepRow Q1.so Q1.fs K fun n a b => Q.sx (by rw [← b]; exact a)
  obtain ⟨r1, r2⟩ := keepRow Q1.ro Q1.fr K fun n a b => Q.rx (by rw [← b]; exact a)
  have hS : ¬ S f0 := fun s => by have := Q.ml f0 (.inr (.inl s)); omega
  have hR : ¬ R f0 := fun s => by have := Q.ml f0 (.inr (.inr (.inl s))); omega
  have hx : f0 ≠ x := by have := Q.xl; omega
  have off : ∀ p, p ∈ ps' → Fam h1 (Off Fs (MM (fun n => n = f0) S R x)) p.1 := fun p hp => (G.off p hp).mono fun n hn => ⟨Q.up n hn.1, fun m => by
    rcases m with m | m | m | m
    · exact hn.2 m
    · have := Q.ml n (.inr (.inl m)); have := hn.1; omega
    · have := Q.ml n (.inr (.inr (.inl m))); have := hn.1; omega
    · have := Q.xl; have := hn.1; omega⟩
  have G1 : GP h1 Fs (MM (fun n => n = f0) S R x) cv' l ps' := ⟨G.eq, G.own, G.rd, off⟩
  refine ⟨⟨V, by rw [e1]; exact G1.ch K (fun y r => r.mono fun n e => .inr (.inr (.inr e))) (F.apart fun n a b => hx (by rw [← a]; exact b)), by rw [e3]; exact s1, by rw [e2]; exact r1, F.ch K G.lt, s2, r2, fun n a s => hS (by rw [← a]; exact s), fun n a s => hR (by rw [← a]; exact s), Q.sr, fun a => hx a.symm, Q.sx, Q.rx, fun n m => ?_, fun n m => ?_, fun n hn => Q.up n (by omega)⟩, K1.rg.thenR (Q1.dirt K fun n e => .inr (.inr (.inr e)))⟩
  · rcases m with m | m
    · show n < h'.size; omega
    · have := Q.ml n (.inr m); omega
  · rcases m with m | m
    · exact Q.up n (by omega)
    · exact Q.mF n (.inr m)
/-- It stays as it is while another thing changes. -/
theorem DX.aside (Q : DX h Fs x X cv sv rv ps C S R) (H : Wf h) (K : Ch (Rg Gs h) h h') (hd : ∀ n, n < h.size → Fs n → ¬ Gs n) : DX h' (Nar Fs h.size h'.size) x X cv sv rv ps C S R := by
  have hle := Ch.le K
  have hM : ∀ n, MM C S R x n → ¬ Gs n := fun n m => hd n (Q.ml n m) (Q.mF n m)
  obtain ⟨s1, s2⟩ := keepRow Q.so Q.fs K fun n a => hM n (.inr (.inl a))
  obtain ⟨r1, r2⟩ := keepRow Q.ro Q.fr K fun n a => hM n (.inr (.inr (.inl a)))
  have plt : ∀ p, p ∈ ps → ∀ z, blkOf p.1 = some z → z < h.size := fun p hp z hz => ((Q.gp.rd p hp).blk_lt hz).1
  refine ⟨keepVar H Q.var K (hM x (.inr (.inr (.inr rfl)))), ⟨Q.gp.eq, Ch.ownR K Q.gp.own (Q.fc.apart fun n a => hM n (.inl a)), fun p hp => Ch.rd K (Q.gp.rd p hp) (apartH H hd ((Q.gp.off p hp).mono fun n hn => hn.1) (plt p hp)), fun p hp z k hz g => ?_⟩, s1, r1, Q.fc.ch K Q.clt, s2, r2, Q.cs, Q.cr, Q.sr, Q.cx, Q.sx, Q.rx, fun n m => Nat.lt_of_lt_of_le (Q.ml n m) hle, fun n m => .inl ⟨Q.mF n m, Q.ml n m⟩, fun n hn => .inr hn⟩
  obtain ⟨k0, g0, e⟩ := K.2.2.2.2.1 z k (plt p hp z hz) g
  have ho := Q.gp.off p hp z k0 hz g0
  have h1 := H.2 z k0 g0
  have h2 := plt p hp z hz
  rw [e]
  exact ⟨.inl ⟨ho.1, by omega⟩, ho.2⟩
/-- What of it is loaded. -/
theorem DX.load (Q : DX h Fs x X cv sv rv ps C S R) :
    aload prog h 3 ⟨x, 0, none⟩ = some (.int .i64 X.rows) ∧ aload prog h 3 ⟨x, 1, none⟩ = some (.int .i64 X.cols) ∧ aload prog h 36 ⟨x, 2, none⟩ = some cv ∧
    aload prog h 3 ⟨x, 3, none⟩ = some (.int .i64 X.row) ∧ aload prog h 3 ⟨x, 4, none⟩ = some (.int .i64 X.col) ∧ aload prog h 3 ⟨x, 5, none⟩ = some (.int .i64 X.attr) ∧
    aload prog h 4 ⟨x, 6, none⟩ = some (.bool X.hid) ∧ aload prog h 3 ⟨x, 7, none⟩ = some (.int .i64 (lastZ X.last)) ∧ aload prog h 3 ⟨x, 8, none⟩ = some (.int .i64 (X.st : Int)) ∧
    aload prog h 29 ⟨x, 9, none⟩ = some sv ∧ aload prog h 29 ⟨x, 10, none⟩ = some rv := by
  have V := Q.var
  exact ⟨V.load1 (i := 0) underlying3 rfl, V.load1 (i := 1) underlying3 rfl, V.load1 (i := 2) underlying36 rfl, V.load1 (i := 3) underlying3 rfl, V.load1 (i := 4) underlying3 rfl, V.load1 (i := 5) underlying3 rfl,
    V.load1 (i := 6) underlying4 rfl, V.load1 (i := 7) underlying3 rfl, V.load1 (i := 8) underlying3 rfl, V.load1 (i := 9) underlying29 rfl, V.load1 (i := 10) underlying29 rfl⟩
end
/-- The document's terminal, its parts left untold. -/
def DY (h : Heap) (Fs : Nat → Prop) (x : Nat) (X : TX) : Prop := ∃ cv sv rv ps C S R, DX h Fs x X cv sv rv ps C S R
theorem DY.keeps {h h' : Heap} {Fs : Nat → Prop} {x : Nat} {X : TX} (P : DY h Fs x X) (H : Wf h) (K : Keeps h h') : DY h' Fs x X := by
  obtain ⟨cv, sv, rv, ps, C, S, R, Q⟩ := P
  exact ⟨_, _, _, _, _, _, _, Q.keeps H K⟩
end Go.Proofs.YtefpalmihdbmiaaDoor.Am
end
section
/- The document's terminal: contracts of at, goes, Waits, and of the document's blank grids, by walks. -/
set_option linter.unusedSimpArgs false
set_option linter.unusedVariables false
set_option maxHeartbeats 4000000
set_option maxRecDepth 20000
namespace Go.Proofs.YtefpalmihdbmiaaDoor.Am
open Go Go.RowKit Go.Proofs.Tryd
theorem refAt_ok {h : Heap} {Fs : Nat → Prop} {x : Nat} {X : TX} (P : DY h Fs x X) (I : Inv X) : ACalls prog 69 #[pt x] h (fun y h' => y = .int .i64 (X.row * X.cols + X.col) ∧ h' = h) := by
  refine acalls_of_W func69 rfl (by kernel_rfl) (by kernel_rfl) (by simp [ntmps69]) ?_
  obtain ⟨cv, sv, rv, ps, C, S, R, Q⟩ := P
  obtain ⟨l0, l1, l2, l3, l4, l5, l6, l7, l8, l9, l10⟩ := Q.load
  obtain ⟨A, hA, hAl, hlen, _⟩ := I.rowA
  have hc := I.c; have hcol := I.col
  have wm : IntKind.i64.wrap (X.row * X.cols) = X.row * X.cols := IntWalk.i64_in _ (by omega)
  have wa : IntKind.i64.wrap (X.row * X.cols + X.col) = X.row * X.cols + X.col := IntWalk.i64_in _ (by omega)
  simp only [wk, wt, wl, ↓reduceIte, Nat.reduceEqDiff, Nat.reduceAdd, Nat.zero_add, not_false_eq_true, not_true_eq_false, pt]
  refine adraw_order [(0, false), (1, false), (2, false), (3, false), (4, false), (5, false), (6, false), (7, false), (8, false), (9, false), (10, false), (11, false), (12, false), (13, false), (14, false), (15, false), (16, false), (17, false)] mixed (by kernel_rfl) (by kernel_rfl) (by kernel_rfl) (by with_reducible repeat (first | exact PF_retK | refine PF_thenK ?_ | refine PF_blockK ?_)) ?_
  simp only [wk, wt, wl, ↓reduceIte, Nat.reduceEqDiff, Nat.reduceAdd, Nat.zero_add, not_false_eq_true, not_true_eq_false, dK_t, pt, l1, l3, l4, wm, wa]
theorem clamp_ref {r n : Int} (h : 1 ≤ n) : imax 0 (imin r (n - 1)) = clampZ r n := by
  unfold clampZ imax imin
  (repeat' split) <;> omega
theorem refGoes_ok {h : Heap} {Fs : Nat → Prop} {x : Nat} {X : TX} {r c : Int} (P : DY h Fs x X) (hr : 2 ≤ X.rows ∧ X.rows ≤ 500) (hc : 2 ≤ X.cols ∧ X.cols ≤ 1000) :
    ACalls prog 56 #[pt x, .int .i64 r, .int .i64 c] h (fun y h' => y = .tuple #[] ∧ DY h' Fs x (moveX X r c) ∧ Ch (Rg Fs h) h h') := by
  refine acalls_of_W' func56 rfl (by kernel_rfl) (by kernel_rfl) (by simp [ntmps56]) ?_
  intro H
  obtain ⟨cv, sv, rv, ps, C, S, R, Q⟩ := P
  obtain ⟨l0, l1, l2, l3, l4, l5, l6, l7, l8, l9, l10⟩ := Q.load
  have w0 : IntKind.i64.wrap (X.rows - 1) = X.rows - 1 := IntWalk.i64_in _ (by omega)
  have w1 : IntKind.i64.wrap (X.cols - 1) = X.cols - 1 := IntWalk.i64_in _ (by omega)
  obtain ⟨h1, e1, V1, C1, z1⟩ := Q.var.store1 (P := prog) (t := 3) (v := .int .i64 (clampZ r X.rows)) (i := 3) H asz3 (by simp [dF]) rfl
  obtain ⟨Q1, D1⟩ := Q.own (X' := { X with row := clampZ r X.rows }) H C1 V1 rfl rfl rfl
  have m1 := Q1.load.2.1
  obtain ⟨h2, e2, V2, C2, z2⟩ := Q1.var.store1 (P := prog) (t := 3) (v := .int .i64 (clampZ c X.cols)) (i := 4) (Ch.wf C1) asz3 (by simp [dF]) rfl
  obtain ⟨Q2, D2⟩ := Q1.own (X' := moveX X r c) (Ch.wf C1) C2 V2 rfl rfl rfl
  simp only [wk, wt, wl, ↓reduceIte, Nat.reduceEqDiff, Nat.reduceAdd, Nat.zero_add, not_false_eq_true, not_true_eq_false, pt, l0, w0, mnV, mxV, clamp_ref (show 1 ≤ X.rows by omega), e1, m1, w1, clamp_ref (show 1 ≤ X.cols by omega), e2]
  exact ⟨⟨_, _, _, _, _, _, _, Q2⟩, D1.thenR D2⟩
theorem refWaits_ok {h : Heap} {Fs : Nat → Prop} {x : Nat} {X : TX} (P : DY h Fs x X) : ACalls prog 35 #[pt x] h (fun y h' => y = .bool (!decide (X.st = 0) || decide (X.held ≠ [])) ∧ h' = h) := by
  refine acalls_of_W func35 rfl (by kernel_rfl) (by kernel_rfl) (by simp [ntmps35]) ?_
  obtain ⟨cv, sv, rv, ps, C, S, R, Q⟩ := P
  obtain ⟨l0, l1, l2, l3, l4, l5, l6, l7, l8, l9, l10⟩ := Q.load
  have LR := Q.ro.1.len underlying29
  by_cases h0 : X.st = 0
  · have d0 : decide (¬ (X.st : Int) = 0) = false := decide_eq_false fun e => e (by omega)
    simp only [wk, wt, wl, ↓reduceIte, Nat.reduceEqDiff, Nat.reduceAdd, Nat.zero_add, not_false_eq_true, not_true_eq_false, pt, l8, d0, l10, LR]
    cases hh : X.held with
    | nil => simp [h0]
    | cons a l => simp [h0]
  · have d0 : decide (¬ (X.st : Int) = 0) = true := decide_eq_true fun e => h0 (by omega)
    simp only [wk, wt, wl, ↓reduceIte, Nat.reduceEqDiff, Nat.reduceAdd, Nat.zero_add, not_false_eq_true, not_true_eq_false, pt, l8, d0]
    simp [h0]
theorem sizeR_ref {r : Int} : imax 2 (imin r 500) = sizeR r := by
  unfold sizeR imax imin
  (repeat' split) <;> omega
theorem sizeC_ref {c : Int} : imax 2 (imin c 1000) = sizeC c := by
  unfold sizeC imax imin
  (repeat' split) <;> omega
theorem blankR_ok {h : Heap} {a : Int} : ACalls prog 53 #[.int .i64 a] h (fun y h' => ∃ tv, y = .agg #[tv, .int .i64 a, .bool false] ∧ RdI prog h' .i32 tv [32] ∧ (∀ z, blkOf tv = some z → h.size ≤ z) ∧ Keeps h h') := by
  refine acalls_of_W' func53 rfl (by kernel_rfl) (by kernel_rfl) (by simp [ntmps53]) ?_
  intro H
  have N1 := Keeps.new H 50 [.slice none 0 0, .int .i64 0, .bool false]
  have V1 := Var.new (e := 50) H (cs := [.slice none 0 0, .int .i64 0, .bool false])
  have N2 := Keeps.new (Ch.wf N1) 21 [.int .i32 32]
  have R2 : RdI prog ((h.new 50 [.slice none 0 0, .int .i64 0, .bool false]).new 21 [.int .i32 32]) .i32 (.slice (some ⟨h.size + 1, 0, none⟩) 1 2) [32] := rdI_new (Ch.wf N1) (xs := [32])
  have V2 := Keeps.var (Ch.wf N1) N2 V1
  simp only [wk, wt, wl, ↓reduceIte, Nat.reduceEqDiff, Nat.reduceAdd, Nat.zero_add, not_false_eq_true, not_true_eq_false, new_size, build_cell2]
  generalize (h.new 50 [.slice none 0 0, .int .i64 0, .bool false]).new 21 [.int .i32 32] = h2 at *
  obtain ⟨h3, e3, V3, C3, z3⟩ := V2.store (P := prog) (t := 50) (v := .agg #[.slice (some ⟨h.size + 1, 0, none⟩) 1 2, .int .i64 a, .bool false]) (i := 0) (Ch.wf N2) asz50 (by simp [Value.cells]) (by simp [Value.cells, one])
  simp only [Value.cells, over_all (xs := [.slice none 0 0, .int .i64 0, .bool false]) (vs := [.slice (some ⟨h.size + 1, 0, none⟩) 1 2, .int .i64 a, .bool false]) rfl] at V3
  have L3 := V3.loadA (P := prog) (t := 50) underlying50 rfl asz50
  simp only [wk, wt, wl, ↓reduceIte, Nat.reduceEqDiff, Nat.reduceAdd, Nat.zero_add, not_false_eq_true, not_true_eq_false, e3, L3]
  exact ⟨_, rfl, Ch.rd C3 R2 fun y hy e => by have := blk_new y hy; omega, fun z hz => Nat.le_of_succ_le (blk_new z hz), (N1.trans N2).step C3 fun y e => by omega⟩
/-- The blank grid that the document makes. -/
theorem refBlank_ok {h : Heap} {r c : Int} : ACalls prog 33 #[.int .i64 r, .int .i64 c] h (fun y h' => ∃ f0 cv ps, y = .agg #[.int .i64 (sizeR r), .int .i64 (sizeC c), cv, .int .i64 0, .int .i64 0] ∧
    GP h' (fun n => h.size ≤ n) (fun n => n = f0) cv (blankL r c) ps ∧ Fam h' (fun n => n = f0) cv ∧ (h.size ≤ f0 ∧ f0 < h'.size) ∧ Keeps h h') := by
  refine acalls_of_W' func33 rfl (by kernel_rfl) (by kernel_rfl) (by simp [ntmps33]) ?_
  intro H
  have hR := sizeR_bd r
  have hC := sizeC_bd c
  obtain ⟨n, hn⟩ : ∃ n : Nat, sizeR r * sizeC c = (n : Int) := ⟨(sizeR r * sizeC c).toNat, by have := Int.mul_nonneg (show 0 ≤ sizeR r by omega) (show 0 ≤ sizeC c by omega); omega⟩
  have hnn : n ≤ 500000 := by
    have h1 : sizeR r * sizeC c ≤ 500 * 1000 := Int.mul_le_mul (by omega) (by omega) (by omega) (by omega)
    omega
  have hbl : blankL r c = List.replicate n (bl 0) := by unfold blankL; rw [hn, Int.toNat_natCast]
  rw [hbl]
  have wm : IntKind.i64.wrap (sizeR r * sizeC c) = (n : Int) := by rw [hn]; exact IntWalk.i64_in _ (by omega)
  have hsr := sizeR_ref (r := r)
  have hsc := sizeC_ref (c := c)
  generalize sizeR r = R at *
  generalize sizeC c = C at *
  have N1 := Keeps.new H 38 [.int .i64 0, .int .i64 0, .slice none 0 0, .int .i64 0, .int .i64 0]
  have V1 := Var.new (e := 38) H (cs := [.int .i64 0, .int .i64 0, .slice none 0 0, .int .i64 0, .int .i64 0])
  have hz1 : (h.new 38 [.int .i64 0, .int .i64 0, .slice none 0 0, .int .i64 0, .int .i64 0]).size = h.size + 1 := rfl
  have bg : abuild prog 38 #[(0, .int .i64 R), (1, .int .i64 C)] = some (.agg #[.int .i64 R, .int .i64 C, .slice none 0 0, .int .i64 0, .int .i64 0]) := by simp [abuild, wt, aplaces, Instr.fill, Value.cells]
  simp only [wk, wt, wl, ↓reduceIte, Nat.reduceEqDiff, Nat.reduceAdd, Nat.zero_add, not_false_eq_true, not_true_eq_false, mxV, mnV, hsr, hsc, bg]
  generalize h.new 38 [.int .i64 0, .int .i64 0, .slice none 0 0, .int .i64 0, .int .i64 0] = h1 at *
  obtain ⟨h3, e3, V3, K13, z3⟩ := putGrid (Ch.wf N1) (r := R) (c := C) (v := .slice none 0 0) (y := 0) (x := 0) rfl
  have K3 := N1.trans K13
  have U3 := Keeps.var (Ch.wf N1) K13 V1
  have LA := fun {hh : Heap} {v : Value} (V : Var hh h1.size [.int .i64 R, .int .i64 C, v, .int .i64 0, .int .i64 0]) => loadGrid V
  simp only [wk, wt, wl, ↓reduceIte, Nat.reduceEqDiff, Nat.reduceAdd, Nat.zero_add, not_false_eq_true, not_true_eq_false, e3]
  refine W_loop (fun tm hh => tm 4 = pt h.size ∧ tm 5 = pt h1.size ∧ Keeps h hh ∧ Var hh h.size [.int .i64 0, .int .i64 0, .slice none 0 0, .int .i64 0, .int .i64 0] ∧ ∃ (i : Nat) (f0 : Nat) (cv : Value) (ps : List PC), tm 6 = .int .i64 (i : Int) ∧ i ≤ n ∧ Var hh h1.size [.int .i64 R, .int .i64 C, cv, .int .i64 0, .int .i64 0] ∧
      GP hh (fun m => h.size ≤ m) (fun m => m = f0) cv (List.replicate i (bl 0)) ps ∧ Fam hh (fun m => m = f0) cv ∧ (h.size ≤ f0 ∧ f0 < hh.size) ∧ (∀ z, blkOf cv = some z → h1.size < z) ∧ (∀ p, p ∈ ps → ∀ z, blkOf p.1 = some z → h1.size < z))
    (fun tm _ => (n - intOf (tm 6)).toNat) ⟨(by first | rfl | (simp only [wk, wt, wl, ↓reduceIte, Nat.reduceEqDiff, Nat.reduceAdd, Nat.zero_add, not_false_eq_true, not_true_eq_false]; done) | (simp only [wk, wt, wl, ↓reduceIte, Nat.reduceEqDiff, Nat.reduceAdd, Nat.zero_add, not_false_eq_true, not_true_eq_false]; rfl)), (by first | rfl | (simp only [wk, wt, wl, ↓reduceIte, Nat.reduceEqDiff, Nat.reduceAdd, Nat.zero_add, not_false_eq_true, not_true_eq_false]; done) | (simp only [wk, wt, wl, ↓reduceIte, Nat.reduceEqDiff, Nat.reduceAdd, Nat.zero_add, not_false_eq_true, not_true_eq_false]; rfl)), K3, U3, 0, h.size, .slice none 0 0, [], (by first | rfl | (simp only [wk, wt, wl, ↓reduceIte, Nat.reduceEqDiff, Nat.reduceAdd, Nat.zero_add, not_false_eq_true, not_true_eq_false]; done) | (simp only [wk, wt, wl, ↓reduceIte, Nat.reduceEqDiff, Nat.reduceAdd, Nat.zero_add, not_false_eq_true, not_true_eq_false]; rfl)), by omega, V3, ⟨rfl, OwnR.nil0, fun p hp => (by cases hp), fun p hp => (by cases hp)⟩, Fam.nil, ⟨Nat.le_refl _, (by have := Ch.le K13; omega)⟩, fun z hz => (by cases hz), fun p hp => (by cases hp)⟩ ?_
  rintro tm hh ⟨t4, t5, K, U, i, f0, cv, ps, t6, hi, V, G, F, hf, hb, hbp⟩
  obtain ⟨a0, a1, a2, _, _, a5⟩ := LA V
  simp only [wk, wt, wl, ↓reduceIte, Nat.reduceEqDiff, Nat.reduceAdd, Nat.zero_add, not_false_eq_true, not_true_eq_false, t4, t5, t6, pt, a0, a1, wm]
  refine condK_dec (fun hd => ?_) (fun hd => ?_)
  · have hpl : ps.length = i := by have := G.length; rwa [List.length_replicate] at this
    simp only [wk, wt, wl, ↓reduceIte, Nat.reduceEqDiff, Nat.reduceAdd, Nat.zero_add, not_false_eq_true, not_true_eq_false, t4, t5, t6, pt]
    refine adraw_order [(0, false), (1, false), (2, true), (3, true), (4, false), (5, false), (6, false)] mixed (by kernel_rfl) (by kernel_rfl) (by kernel_rfl) (by with_reducible repeat (first | exact PF_retK | refine PF_thenK ?_ | refine PF_blockK ?_)) ?_
    simp only [wk, wt, wl, ↓reduceIte, Nat.reduceEqDiff, Nat.reduceAdd, Nat.zero_add, not_false_eq_true, not_true_eq_false, dK_t, t5, pt, a2]
    refine (blankR_ok (a := 0)).use ?_
    rintro _ h6 ⟨tv, rfl, R6, hz6, K6⟩
    have hle6 := Ch.le K6
    have hleK := Ch.le K
    have G6 := G.keeps K6
    have F6 := F.ch K6 G.lt
    have V6 := Keeps.var (Ch.wf K) K6 V
    have U6 := Keeps.var (Ch.wf K) K6 U
    have B3 := buildA3 (P := prog) (h := h6) (t := 36) underlying36 asz50 azero50 rfl R6.one (one_int (k := .i64) (x := 0)) (one_bool (b := false))
    obtain ⟨h7, e7, O7, z7, C7, ⟨k7, g7, ro7, fam7⟩, _⟩ := G6.own.append1 (P := prog) (Ch.wf K6) underlying36 elem50 fits50 (by decide) (xs := [tv, .int .i64 0, .bool false]) rfl (by omega)
    have nf : ∀ (y : Nat) (cs : List Value), Var h6 y cs → y ≤ h1.size → ¬ FamV h6 cv y := fun y cs W hy => W.notFam fun e => by have := hb y e; omega
    have V7 := Ch.var (Ch.wf K6) C7 V6 (nf _ _ V6 (Nat.le_refl _))
    have U7 := Ch.var (Ch.wf K6) C7 U6 (nf _ _ U6 (by omega))
    have hlt1 : h1.size < hh.size := V.lt (Ch.wf K)
    have dirt7 : ∀ y, FamV h6 cv y → h.size ≤ y := fun y d => by
      obtain ⟨k, g, e⟩ := FamV.rg F6 d
      have := (Ch.wf K6).2 y k g
      omega
    have K7 := (K.trans K6).step C7 dirt7
    obtain ⟨h8, e8, V8, C8, z8⟩ := V7.store1 (P := prog) (t := 36) (v := .slice (some ⟨h6.size + 1, 0, none⟩) (ps.length + 1) 0) (i := 2) (Ch.wf C7) asz36 (by simp) rfl
    simp only [List.set_cons_succ, List.set_cons_zero] at V8
    have K8 := K7.step C8 fun y e => by omega
    have U8 := Ch.var (Ch.wf C7) C8 U7 (by omega)
    have O8 := Ch.ownR C8 O7 fun y hy e => by have := blk_new y hy; omega
    have CR7 : Ch (Rg (fun m => m = f0) h6) h6 h7 := C7.mono fun y d => FamV.rg F6 d
    -- texts
    have tx : ∀ (v : Value) (xs : List Int), RdI prog h6 .i32 v xs → Fam h6 (Off (fun m => h.size ≤ m) (fun m => m = f0)) v → (∀ z, blkOf v = some z → h1.size < z) → RdI prog h8 .i32 v xs ∧ Fam h8 (fun m => h.size ≤ m ∧ m ≠ f0 ∧ m < h6.size) v := fun v xs Rv Fv hbv => by
      have r7 := Ch.rd CR7 Rv (Fv.apart fun m a b => a.2 b)
      refine ⟨Ch.rd C8 r7 fun y hy e => by have := hbv y hy; omega, fun z k hz g => ?_⟩
      have hz6 := (Rv.blk_lt hz).1
      obtain ⟨k1, g1, e1⟩ := C8.2.2.2.2.1 z k (by omega) g
      obtain ⟨k2, g2, e2⟩ := CR7.2.2.2.2.1 z k1 hz6 g1
      have o := Fv z k2 hz g2
      have := (Ch.wf K6).2 z k2 g2
      rw [e1, e2]
      exact ⟨o.1, o.2, by omega⟩
    have off6 : Fam h6 (Off (fun m => h.size ≤ m) (fun m => m = f0)) tv := (Fam.freshK K6 hz6).mono fun m hm => ⟨by have := hm.1; show h.size ≤ m; omega, fun e => by omega⟩
    have hw8 := Ch.wf C8
    obtain ⟨f1, F8, hf1⟩ : ∃ f1, Fam h8 (fun m => m = f1) (.slice (some ⟨h6.size + 1, 0, none⟩) (ps.length + 1) 0) ∧ (f1 = h6.size + 1 ∨ f1 = f0) := by
      have at8 : ∀ k, h8.get (h6.size + 1) = some k → k.fam = k7.fam := fun k g => by
        obtain ⟨k1, g1, e1⟩ := C8.2.2.2.2.1 (h6.size + 1) k (by omega) g
        rw [g7] at g1; cases g1
        exact e1
      rcases fam7 with e | ⟨w, kw, hw, gw, e⟩
      · exact ⟨h6.size + 1, fun z k hz g => by cases hz; exact (at8 k g).trans e, .inl rfl⟩
      · exact ⟨f0, fun z k hz g => by cases hz; exact ((at8 k g).trans e).trans (F6 w kw hw gw), .inr rfl⟩
    have off8 : ∀ v, Fam h8 (fun m => h.size ≤ m ∧ m ≠ f0 ∧ m < h6.size) v → Fam h8 (Off (fun m => h.size ≤ m) (fun m => m = f1)) v := fun v Fv => Fv.mono fun m hm => ⟨hm.1, fun e => by
      rcases hf1 with q | q
      · omega
      · exact hm.2.1 (by omega)⟩
    have G8 : GP h8 (fun m => h.size ≤ m) (fun m => m = f1) (.slice (some ⟨h6.size + 1, 0, none⟩) (ps.length + 1) 0) (List.replicate (i + 1) (bl 0)) (ps ++ [(tv, bl 0)]) := by
      have key : ∀ p, p ∈ ps ++ [(tv, bl 0)] → RdI prog h8 .i32 p.1 p.2.tx ∧ Fam h8 (Off (fun m => h.size ≤ m) (fun m => m = f1)) p.1 := fun p hp => by
        rcases List.mem_append.1 hp with hp | hp
        · obtain ⟨r, f⟩ := tx _ _ (G6.rd p hp) (G6.off p hp) (hbp p hp)
          exact ⟨r, off8 _ f⟩
        · obtain rfl := List.mem_singleton.1 hp
          obtain ⟨r, f⟩ := tx tv [32] R6 off6 fun z hz => by have := hz6 z hz; omega
          exact ⟨r, off8 _ f⟩
      refine ⟨by rw [List.map_append, G.eq, List.replicate_succ']; rfl, ?_, fun p hp => (key p hp).1, fun p hp => (key p hp).2⟩
      have := O8
      rw [List.length_append, List.length_singleton, List.flatMap_append]
      exact this
    try refine ⟨fun _ => K6.reads (Ch.wf K), ?_⟩
    rw [hpl] at e7 e8 V8 F8 G8
    simp (disch := omega) only [wk, wt, wl, ↓reduceIte, Nat.reduceEqDiff, Nat.reduceAdd, Nat.zero_add, not_false_eq_true, not_true_eq_false, dK_t, t4, t5, t6, pt, B3, a2, e7, e8, IntWalk.i64_in, intOf_int]
    refine ⟨(Keeps.new (Ch.wf K6) _ _).reads (Ch.wf K6), ?_⟩
    exact ⟨⟨K8, U8, i + 1, f1, _, _, by simp, by omega, V8, G8, F8, ⟨by omega, by omega⟩, fun z hz => by have := blk_new z hz; omega, fun p hp z hz => by
      rcases List.mem_append.1 hp with hp | hp
      · exact hbp p hp z hz
      · obtain rfl := List.mem_singleton.1 hp
        have := hz6 z hz
        omega⟩, by omega⟩
  · obtain rfl : i = n := by omega
    have oc : one cv = true := G.own.1.one
    obtain ⟨h8, e8, U8, C8, z8⟩ := U.store (P := prog) (t := 38) (v := .agg #[.int .i64 R, .int .i64 C, cv, .int .i64 0, .int .i64 0]) (i := 0) (Ch.wf K) asz38 (by simp [Value.cells, one_cells oc]) (by simp [Value.cells, one_cells oc, oc, one_int])
    have hcs : (Value.agg #[.int .i64 R, .int .i64 C, cv, .int .i64 0, .int .i64 0]).cells.toList = [.int .i64 R, .int .i64 C, cv, .int .i64 0, .int .i64 0] := by simp [Value.cells, one_cells oc]
    rw [hcs, over_all (xs := [.int .i64 0, .int .i64 0, .slice none 0 0, .int .i64 0, .int .i64 0]) (vs := [.int .i64 R, .int .i64 C, cv, .int .i64 0, .int .i64 0]) rfl] at U8
    have UA := U8.loadA (P := prog) (t := 38) underlying38 rfl asz38
    simp only [wk, wt, wl, ↓reduceIte, Nat.reduceEqDiff, Nat.reduceAdd, Nat.zero_add, not_false_eq_true, not_true_eq_false, t4, t5, pt, a5, e8, UA]
    have hx : h.size ≠ h1.size := by omega
    have hbx : ∀ z, blkOf cv = some z → z ≠ h.size := fun z hz => by have := hb z hz; omega
    refine ⟨f0, cv, ps, rfl, ⟨G.eq, Ch.ownR C8 G.own fun y hy e => hbx y hy e, fun p hp => Ch.rd C8 (G.rd p hp) fun y hy e => by have := hbp p hp y hy; omega, fun p hp => (G.off p hp).ch C8 fun z hz => ((G.rd p hp).blk_lt hz).1⟩, F.ch C8 G.lt, ⟨hf.1, by omega⟩, K.step C8 fun y e => by omega⟩
end Go.Proofs.YtefpalmihdbmiaaDoor.Am
end
section
/- The document's terminal: contracts of New, Resize and blank, by walks. -/
set_option linter.unusedSimpArgs false
set_option linter.unusedVariables false
set_option maxHeartbeats 4000000
set_option maxRecDepth 20000
namespace Go.Proofs.YtefpalmihdbmiaaDoor.Am
open Go Go.RowKit Go.Proofs.Tryd
theorem build_rterm {r c : Int} {cv : Value} (o : one cv = true) : abuild prog 64 #[(0, .agg #[.int .i64 r, .int .i64 c, cv, .int .i64 0, .int .i64 0]), (3, .int .i64 (-1))] = some (.agg #[.int .i64 r, .int .i64 c, cv, .int .i64 0, .int .i64 0, .int .i64 0, .bool false, .int .i64 (-1), .int .i64 0, .slice none 0 0, .slice none 0 0]) := by
  simp [abuild, wt, aplaces, Instr.fill, Value.cells, one_cells o]
theorem boxV_rterm {h : Heap} {r c : Int} {cv : Value} (o : one cv = true) : boxV prog h 64 (.agg #[.int .i64 r, .int .i64 c, cv, .int .i64 0, .int .i64 0, .int .i64 0, .bool false, .int .i64 (-1), .int .i64 0, .slice none 0 0, .slice none 0 0]) = some (.pointer (some ⟨h.size, 0, none⟩), h.new 64 [.int .i64 r, .int .i64 c, cv, .int .i64 0, .int .i64 0, .int .i64 0, .bool false, .int .i64 (-1), .int .i64 0, .slice none 0 0, .slice none 0 0]) := by
  simp [boxV, asz64, Value.cells, one_cells o, o, one_int, one_bool, one_slice]
theorem refNew_ok {h : Heap} {r c : Int} : ACalls prog 11 #[.int .i64 r, .int .i64 c] h (fun y h' => ∃ x, y = pt x ∧ h.size ≤ x ∧ DY h' (fun n => h.size ≤ n) x (newX r c) ∧ Keeps h h') := by
  refine acalls_of_W' func11 rfl (by kernel_rfl) (by kernel_rfl) (by simp [ntmps11]) ?_
  intro H
  simp only [wk, wt, wl, ↓reduceIte, Nat.reduceEqDiff, Nat.reduceAdd, Nat.zero_add, not_false_eq_true, not_true_eq_false]
  refine (refBlank_ok (r := r) (c := c)).use ?_
  rintro _ h1 ⟨f0, cv, ps, rfl, G1, F1, hf, K1⟩
  have oc : one cv = true := G1.own.1.one
  simp only [wk, wt, wl, ↓reduceIte, Nat.reduceEqDiff, Nat.reduceAdd, Nat.zero_add, not_false_eq_true, not_true_eq_false, build_rterm oc, aeff_box, boxV_rterm oc]
  have N2 := Keeps.new (Ch.wf K1) 64 [.int .i64 (sizeR r), .int .i64 (sizeC c), cv, .int .i64 0, .int .i64 0, .int .i64 0, .bool false, .int .i64 (-1), .int .i64 0, .slice none 0 0, .slice none 0 0]
  have V2 := Var.new (e := 64) (Ch.wf K1) (cs := [.int .i64 (sizeR r), .int .i64 (sizeC c), cv, .int .i64 0, .int .i64 0, .int .i64 0, .bool false, .int .i64 (-1), .int .i64 0, .slice none 0 0, .slice none 0 0])
  have hz2 : (h1.new 64 [.int .i64 (sizeR r), .int .i64 (sizeC c), cv, .int .i64 0, .int .i64 0, .int .i64 0, .bool false, .int .i64 (-1), .int .i64 0, .slice none 0 0, .slice none 0 0]).size = h1.size + 1 := rfl
  generalize h1.new 64 [.int .i64 (sizeR r), .int .i64 (sizeC c), cv, .int .i64 0, .int .i64 0, .int .i64 0, .bool false, .int .i64 (-1), .int .i64 0, .slice none 0 0, .slice none 0 0] = h2 at *
  have hle := Ch.le K1
  have off : ∀ p, p ∈ ps → Fam h1 (Off (fun n => h.size ≤ n) (MM (fun n => n = f0) (fun _ => False) (fun _ => False) h1.size)) p.1 := fun p hp z k hz g => by
    have o := G1.off p hp z k hz g
    have h1 := (Ch.wf K1).2 z k g
    have h2 := ((G1.rd p hp).blk_lt hz).1
    exact ⟨o.1, fun m => by
      rcases m with m | m | m | m
      · exact o.2 m
      · exact m
      · exact m
      · omega⟩
  have G1' : GP h1 (fun n => h.size ≤ n) (MM (fun n => n = f0) (fun _ => False) (fun _ => False) h1.size) cv (blankL r c) ps := ⟨G1.eq, G1.own, G1.rd, off⟩
  refine ⟨h1.size, rfl, hle, ⟨cv, .slice none 0 0, .slice none 0 0, ps, fun n => n = f0, fun _ => False, fun _ => False, V2, G1'.keeps N2, OwnR.nil0, OwnR.nil0, F1.ch N2 G1.lt, Fam.nil, Fam.nil, fun n _ e => e, fun n _ e => e, fun n e => e.elim, fun e => ?_, fun e => e, fun e => e, fun n m => ?_, fun n m => ?_, fun n hn => ?_⟩, K1.trans N2⟩
  · have : h1.size = f0 := e
    omega
  · rcases m with m | m | m | m
    · show n < h2.size; have : n = f0 := m; omega
    · exact m.elim
    · exact m.elim
    · omega
  · rcases m with m | m | m | m
    · have : n = f0 := m; show h.size ≤ n; omega
    · exact m.elim
    · exact m.elim
    · show h.size ≤ n; omega
  · show h.size ≤ n; omega
theorem refResize_ok {h : Heap} {Fs : Nat → Prop} {x : Nat} {X : TX} {r c : Int} (P : DY h Fs x X) :
    ACalls prog 29 #[pt x, .int .i64 r, .int .i64 c] h (fun y h' => y = .tuple #[] ∧ DY h' Fs x (resizeX X r c) ∧ Ch (Rg Fs h) h h') := by
  refine acalls_of_W' func29 rfl (by kernel_rfl) (by kernel_rfl) (by simp [ntmps29]) ?_
  intro H
  obtain ⟨cv, sv, rv, ps, C, S, R, Q⟩ := P
  simp only [wk, wt, wl, ↓reduceIte, Nat.reduceEqDiff, Nat.reduceAdd, Nat.zero_add, not_false_eq_true, not_true_eq_false, pt]
  refine (refBlank_ok (r := r) (c := c)).use ?_
  rintro _ h1 ⟨f0, cv', ps', rfl, G1, F1, hf, K1⟩
  have oc : one cv' = true := G1.own.1.one
  have Q1 := Q.keeps H K1
  obtain ⟨h2, e2, V2, C2, z2⟩ := Q1.var.store (P := prog) (t := 38) (v := .agg #[.int .i64 (sizeR r), .int .i64 (sizeC c), cv', .int .i64 0, .int .i64 0]) (i := 0) (Ch.wf K1) asz38 (by simp [Value.cells, dF, one_cells oc]) (by simp [Value.cells, one_cells oc, oc, one_int])
  obtain ⟨h3, e3, V3, C3, z3⟩ := V2.store1 (P := prog) (t := 3) (v := .int .i64 (-1)) (i := 7) (Ch.wf C2) asz3 (by simp [Value.cells, dF, over, one_cells oc]) rfl
  have V4 : Var h3 x (dF (resizeX X r c) cv' sv rv) := by
    have e : (over (dF X cv sv rv) 0 (Value.agg #[.int .i64 (sizeR r), .int .i64 (sizeC c), cv', .int .i64 0, .int .i64 0]).cells.toList).set 7 (.int .i64 (-1)) = dF (resizeX X r c) cv' sv rv := by simp [Value.cells, dF, over, resizeX, lastZ, one_cells oc]
    rw [e] at V3; exact V3
  have C13 : Ch (fun y => y = x) h1 h3 := C2.then C3 fun y e => .inr e
  obtain ⟨Q3, D3⟩ := Q.regrid (X' := resizeX X r c) H K1 G1 F1 hf C13 V4 rfl rfl rfl
  simp only [wk, wt, wl, ↓reduceIte, Nat.reduceEqDiff, Nat.reduceAdd, Nat.zero_add, not_false_eq_true, not_true_eq_false, e2, e3]
  exact ⟨⟨_, _, _, _, _, _, _, Q3⟩, D3⟩
section
variable {h h1 : Heap} {Fs : Nat → Prop} {x i : Nat} {X : TX} {cv sv rv tv : Value} {ps : List PC} {C S R : Nat → Prop} {c : Cel}
/-- A cell is written anew. -/
theorem DX.putCell (Q : DX h Fs x X cv sv rv ps C S R) (H : Wf h) (K : Keeps h h1) (hi : i < X.cells.length) (ht : RdI prog h1 .i32 tv c.tx) (hz : ∀ z, blkOf tv = some z → h.size ≤ z) :
    ∃ h2 ps', storeV prog h1 50 (.pointer (some (eltA cv 3 i))) (.agg #[tv, .int .i64 c.ar, .bool c.wd]) = some (undef, h2) ∧ DX h2 Fs x { X with cells := X.cells.set i c } cv sv rv ps' C S R ∧ Ch (Rg Fs h) h h2 := by
  have Q1 := Q.keeps H K
  obtain ⟨h2, e2, G2, C2, z2⟩ := Q1.gp.set (c := c) (Ch.wf K) (Q1.fc.mono fun n a => .inl a) hi ht (Q.fresh K hz)
  obtain ⟨Q2, D2⟩ := Q1.cells (Ch.wf K) C2 G2
  exact ⟨h2, _, e2, Q2, K.rg.thenR D2⟩
theorem DX.blankAt (Q : DX h Fs x X cv sv rv ps C S R) (H : Wf h) (hi : i < X.cells.length) :
    ∃ h2 ps', storeV prog (h.new 21 [.int .i32 32]) 50 (.pointer (some (eltA cv 3 i))) (.agg #[.slice (some ⟨h.size, 0, none⟩) 1 2, .int .i64 0, .bool false]) = some (undef, h2) ∧ DX h2 Fs x { X with cells := X.cells.set i (bl 0) } cv sv rv ps' C S R ∧ Ch (Rg Fs h) h h2 :=
  Q.putCell (c := bl 0) H (Keeps.new H 21 [.int .i32 32]) hi (rdI_new H (xs := [32])) blk_new
end
theorem wipe_parts {l l1 l2 : List Cel} {F T : Nat} (hft : F < T) (hT : T ≤ l.length) (he : (l.getD F (bl 0)).tx = [] → 0 < F) (hw : (l.getD (T - 1) (bl 0)).wd = true → T < l.length)
    (h1 : l1 = if (l.getD F (bl 0)).tx = [] then l.set (F - 1) (bl 0) else l) (h2 : l2 = if (l.getD (T - 1) (bl 0)).wd = true then l1.set T (bl 0) else l1) : setB l2 F T = wipeL l F T := by
  unfold wipeL
  rw [if_pos hft]
  subst h1
  subst h2
  refine List.ext_getElem? fun i => ?_
  rw [setB_at, setB_at]
  by_cases c1 : (l.getD F (bl 0)).tx = []
  · have h0 := he c1
    rw [if_pos c1, if_pos c1]
    by_cases c2 : (l.getD (T - 1) (bl 0)).wd = true
    · have h3 := hw c2
      rw [if_pos c2, if_pos c2, List.getElem?_set, List.getElem?_set, List.length_set]
      by_cases e1 : T = i
      · subst e1
        rw [if_pos rfl, if_pos h3, List.getElem?_eq_getElem h3]
        simp only [Option.map_some]
        rw [if_neg (by omega), if_pos (by omega)]
      · rw [if_neg e1]
        by_cases e2 : F - 1 = i
        · subst e2
          rw [if_pos rfl, if_pos (by omega), List.getElem?_eq_getElem (by omega)]
          simp only [Option.map_some]
          rw [if_neg (by omega), if_pos (by omega)]
        · rw [if_neg e2]
          congr 1; funext c
          by_cases e3 : F ≤ i ∧ i < T
          · rw [if_pos e3, if_pos (by omega)]
          · rw [if_neg e3, if_neg (by omega)]
    · rw [if_neg c2, if_neg c2, List.getElem?_set]
      by_cases e2 : F - 1 = i
      · subst e2
        rw [if_pos rfl, if_pos (by omega), List.getElem?_eq_getElem (by omega)]
        simp only [Option.map_some]
        rw [if_neg (by omega), if_pos (by omega)]
      · rw [if_neg e2]
        congr 1; funext c
        by_cases e3 : F ≤ i ∧ i < T
        · rw [if_pos e3, if_pos (by omega)]
        · rw [if_neg e3, if_neg (by omega)]
  · rw [if_neg c1, if_neg c1]
    by_cases c2 : (l.getD (T - 1) (bl 0)).wd = true
    · have h3 := hw c2
      rw [if_pos c2, if_pos c2, List.getElem?_set]
      by_cases e1 : T = i
      · subst e1
        rw [if_pos rfl, if_pos h3, List.getElem?_eq_getElem h3]
        simp only [Option.map_some]
        rw [if_neg (by omega), if_pos (by omega)]
      · rw [if_neg e1]
        congr 1; funext c
        by_cases e3 : F ≤ i ∧ i < T
        · rw [if_pos e3, if_pos (by omega)]
        · rw [if_neg e3, if_neg (by omega)]
    · rw [if_neg c2, if_neg c2]
theorem refWipe_ok {h : Heap} {Fs : Nat → Prop} {x : Nat} {X : TX} {F T : Nat} (P : DY h Fs x X) (hT : T ≤ X.cells.length) (hl : X.cells.length ≤ 500000)
    (he : F < T → (X.cells.getD F (bl 0)).tx = [] → 0 < F) (hw : F < T → (X.cells.getD (T - 1) (bl 0)).wd = true → T < X.cells.length) :
    ACalls prog 70 #[pt x, .int .i64 F, .int .i64 T] h (fun y h' => y = .tuple #[] ∧ DY h' Fs x { X with cells := wipeL X.cells F T } ∧ Ch (Rg Fs h) h h') := by
  refine acalls_of_W' func70 rfl (by kernel_rfl) (by kernel_rfl) (by simp [ntmps70]) ?_
  intro H
  obtain ⟨cv, sv, rv, ps, C, S, R, Q⟩ := P
  obtain ⟨l0, l1, l2, l3, l4, l5, l6, l7, l8, l9, l10⟩ := Q.load
  by_cases hft : F < T
  · have d1 : decide ((F : Int) < (T : Int)) = true := decide_eq_true (by omega)
    obtain ⟨p, p1, p2, p3⟩ := Q.gp.at (i := F) (by omega)
    obtain ⟨a1, a2, a3, a4, a5⟩ := Q.gp.loads p1
    have IF := Q.gp.index (z := (F : Int)) (by omega) (by omega)
    simp only [Int.toNat_natCast] at IF
    have LF := (Q.gp.rd p p3).len underlying44
    have wT : IntKind.i64.wrap ((T : Int) - 1) = ((T - 1 : Nat) : Int) := by rw [IntWalk.i64_in _ (by omega)]; omega
    have gF := getD_at p2 (d := bl 0)
    have step : ∀ {h1 : Heap} {l1 : List Cel} {ps1 : List PC}, DX h1 Fs x { X with cells := l1 } cv sv rv ps1 C S R → Ch (Rg Fs h) h h1 → l1.length = X.cells.length → (l1.getD (T - 1) (bl 0)) = X.cells.getD (T - 1) (bl 0) →
        ∃ w : Bool, (X.cells.getD (T - 1) (bl 0)).wd = w ∧ aload prog h1 4 ⟨(eltA cv 3 (T - 1)).block, (eltA cv 3 (T - 1)).off + 2, none⟩ = some (.bool w) ∧ aindexAddr prog 36 cv (.int .i64 ((T - 1 : Nat) : Int)) = some (.pointer (some (eltA cv 3 (T - 1)))) := fun {h1 l1 ps1} Q1 D1 hl1 hg => by
      obtain ⟨q, q1, q2, q3⟩ := Q1.gp.at (i := T - 1) (by show T - 1 < l1.length; omega)
      obtain ⟨b1, b2, b3, b4, b5⟩ := Q1.gp.loads q1
      have IT := Q1.gp.index (z := ((T - 1 : Nat) : Int)) (by omega) (by show ((T - 1 : Nat) : Int) < (l1.length : Int); omega)
      simp only [Int.toNat_natCast] at IT
      exact ⟨q.2.wd, by rw [← hg, getD_at q2], b3, IT⟩
    by_cases c1 : p.2.tx = []
    · have d2 : decide ((p.2.tx.length : Int) = 0) = true := decide_eq_true (by rw [c1]; rfl)
      have hF0 := he hft (by rw [gF]; exact c1)
      have wF : IntKind.i64.wrap ((F : Int) - 1) = ((F - 1 : Nat) : Int) := by rw [IntWalk.i64_in _ (by omega)]; omega
      obtain ⟨h1, ps1, e1, Q1, D1⟩ := Q.blankAt (i := F - 1) H (by omega)
      have IF1 := Q.gp.index (z := ((F - 1 : Nat) : Int)) (by omega) (by omega)
      simp only [Int.toNat_natCast] at IF1
      have hl1 : (X.cells.set (F - 1) (bl 0)).length = X.cells.length := List.length_set
      obtain ⟨w, hwd, lw, IT⟩ := step Q1 D1 hl1 (by simp [List.getD, List.getElem?_set]; rw [if_neg (by omega)])
      cases w with
      | true =>
        have hw2 := hw hft hwd
        obtain ⟨h2, ps2, e2, Q2, D2⟩ := Q1.blankAt (i := T) (Ch.wf D1) (by show T < (X.cells.set (F - 1) (bl 0)).length; omega)
        have IT2 := Q1.gp.index (z := (T : Int)) (by omega) (by show (T : Int) < ((X.cells.set (F - 1) (bl 0)).length : Int); omega)
        simp only [Int.toNat_natCast] at IT2
        have hwl := wipe_parts (l := X.cells) hft hT (he hft) (hw hft) rfl rfl
        rw [gF, if_pos c1, if_pos hwd] at hwl
        simp only [wk, wt, wl, ↓reduceIte, Nat.reduceEqDiff, Nat.reduceAdd, Nat.zero_add, not_false_eq_true, not_true_eq_false, pt, l2, d1, IF, a1, a5, LF, d2, wF, build_cell1, IF1, e1, wT, IT, lw, IT2, e2]
        refine W_loop (fun tm hh => tm 0 = pt x ∧ tm 1 = .int .i64 (F : Int) ∧ tm 2 = .int .i64 (T : Int) ∧ tm 6 = cv ∧ Ch (Rg Fs h) h hh ∧ ∃ (j : Nat) (ps : List PC), tm 7 = .int .i64 ((F + j : Nat) : Int) ∧ F + j ≤ T ∧ DX hh Fs x { X with cells := setB ((X.cells.set (F - 1) (bl 0)).set T (bl 0)) F (F + j) } cv sv rv ps C S R)
          (fun tm _ => ((T : Int) - intOf (tm 7)).toNat) ⟨(by first | rfl | (simp only [wk, wt, wl, ↓reduceIte, Nat.reduceEqDiff, Nat.reduceAdd, Nat.zero_add, not_false_eq_true, not_true_eq_false]; done) | (simp only [wk, wt, wl, ↓reduceIte, Nat.reduceEqDiff, Nat.reduceAdd, Nat.zero_add, not_false_eq_true, not_true_eq_false]; rfl)), (by first | rfl | (simp only [wk, wt, wl, ↓reduceIte, Nat.reduceEqDiff, Nat.reduceAdd, Nat.zero_add, not_false_eq_true, not_true_eq_false]; done) | (simp only [wk, wt, wl, ↓reduceIte, Nat.reduceEqDiff, Nat.reduceAdd, Nat.zero_add, not_false_eq_true, not_true_eq_false]; rfl)), (by first | rfl | (simp only [wk, wt, wl, ↓reduceIte, Nat.reduceEqDiff, Nat.reduceAdd, Nat.zero_add, not_false_eq_true, not_true_eq_false]; done) | (simp only [wk, wt, wl, ↓reduceIte, Nat.reduceEqDiff, Nat.reduceAdd, Nat.zero_add, not_false_eq_true, not_true_eq_false]; rfl)), (by first | rfl | (simp only [wk, wt, wl, ↓reduceIte, Nat.reduceEqDiff, Nat.reduceAdd, Nat.zero_add, not_false_eq_true, not_true_eq_false]; done) | (simp only [wk, wt, wl, ↓reduceIte, Nat.reduceEqDiff, Nat.reduceAdd, Nat.zero_add, not_false_eq_true, not_true_eq_false]; rfl)), (D1.thenR D2), 0, _, (by first | rfl | (simp only [wk, wt, wl, ↓reduceIte, Nat.reduceEqDiff, Nat.reduceAdd, Nat.zero_add, not_false_eq_true, not_true_eq_false]; done) | (simp only [wk, wt, wl, ↓reduceIte, Nat.reduceEqDiff, Nat.reduceAdd, Nat.zero_add, not_false_eq_true, not_true_eq_false]; rfl)), by omega, by rw [Nat.add_zero, setB_nil]; exact Q2⟩ ?_
        rintro tm hh ⟨t0, t1, t2, t6, D, j, ps', t7, hj, Q'⟩
        simp only [wk, wt, wl, ↓reduceIte, Nat.reduceEqDiff, Nat.reduceAdd, Nat.zero_add, not_false_eq_true, not_true_eq_false, t0, t1, t2, t6, t7]
        refine condK_dec (fun hd => ?_) (fun hd => ?_)
        · have hlb : (setB ((X.cells.set (F - 1) (bl 0)).set T (bl 0)) F (F + j)).length = X.cells.length := by rw [setB_len, List.length_set, List.length_set]
          have HH := Ch.wf D
          obtain ⟨h5, ps5, e5, Q5, D5⟩ := Q'.blankAt (i := F + j) HH (by show F + j < (setB ((X.cells.set (F - 1) (bl 0)).set T (bl 0)) F (F + j)).length; rw [hlb]; omega)
          simp only [setB_succ (show F + j < (((X.cells.set (F - 1) (bl 0)).set T (bl 0))).length by rw [List.length_set, List.length_set]; omega)] at Q5
          have IX := Q'.gp.index (z := ((F + j : Nat) : Int)) (by omega) (by show ((F + j : Nat) : Int) < ((setB ((X.cells.set (F - 1) (bl 0)).set T (bl 0)) F (F + j)).length : Int); rw [hlb]; omega)
          simp only [Int.toNat_natCast] at IX
          have wj : IntKind.i64.wrap (((F + j : Nat) : Int) + 1) = ((F + (j + 1) : Nat) : Int) := by rw [IntWalk.i64_in _ (by omega)]; omega
          simp only [wk, wt, wl, ↓reduceIte, Nat.reduceEqDiff, Nat.reduceAdd, Nat.zero_add, not_false_eq_true, not_true_eq_false, t0, t1, t2, t6, t7, build_cell1, IX, e5, wj, intOf_int]
          exact ⟨⟨D.thenR D5, j + 1, _, rfl, by omega, Q5⟩, by omega⟩
        · obtain rfl : T = F + j := by omega
          simp only [wk, wt, wl, ↓reduceIte, Nat.reduceEqDiff, Nat.reduceAdd, Nat.zero_add, not_false_eq_true, not_true_eq_false]
          rw [← hwl]
          exact ⟨⟨_, _, _, _, _, _, _, Q'⟩, D⟩
      | false =>
        have hwl := wipe_parts (l := X.cells) hft hT (he hft) (hw hft) rfl rfl
        rw [gF, if_pos c1, if_neg (by rw [hwd]; decide)] at hwl
        simp only [wk, wt, wl, ↓reduceIte, Nat.reduceEqDiff, Nat.reduceAdd, Nat.zero_add, not_false_eq_true, not_true_eq_false, pt, l2, d1, IF, a1, a5, LF, d2, wF, build_cell1, IF1, e1, wT, IT, lw]
        refine W_loop (fun tm hh => tm 0 = pt x ∧ tm 1 = .int .i64 (F : Int) ∧ tm 2 = .int .i64 (T : Int) ∧ tm 6 = cv ∧ Ch (Rg Fs h) h hh ∧ ∃ (j : Nat) (ps : List PC), tm 7 = .int .i64 ((F + j : Nat) : Int) ∧ F + j ≤ T ∧ DX hh Fs x { X with cells := setB (X.cells.set (F - 1) (bl 0)) F (F + j) } cv sv rv ps C S R)
          (fun tm _ => ((T : Int) - intOf (tm 7)).toNat) ⟨(by first | rfl | (simp only [wk, wt, wl, ↓reduceIte, Nat.reduceEqDiff, Nat.reduceAdd, Nat.zero_add, not_false_eq_true, not_true_eq_false]; done) | (simp only [wk, wt, wl, ↓reduceIte, Nat.reduceEqDiff, Nat.reduceAdd, Nat.zero_add, not_false_eq_true, not_true_eq_false]; rfl)), (by first | rfl | (simp only [wk, wt, wl, ↓reduceIte, Nat.reduceEqDiff, Nat.reduceAdd, Nat.zero_add, not_false_eq_true, not_true_eq_false]; done) | (simp only [wk, wt, wl, ↓reduceIte, Nat.reduceEqDiff, Nat.reduceAdd, Nat.zero_add, not_false_eq_true, not_true_eq_false]; rfl)), (by first | rfl | (simp only [wk, wt, wl, ↓reduceIte, Nat.reduceEqDiff, Nat.reduceAdd, Nat.zero_add, not_false_eq_true, not_true_eq_false]; done) | (simp only [wk, wt, wl, ↓reduceIte, Nat.reduceEqDiff, Nat.reduceAdd, Nat.zero_add, not_false_eq_true, not_true_eq_false]; rfl)), (by first | rfl | (simp only [wk, wt, wl, ↓reduceIte, Nat.reduceEqDiff, Nat.reduceAdd, Nat.zero_add, not_false_eq_true, not_true_eq_false]; done) | (simp only [wk, wt, wl, ↓reduceIte, Nat.reduceEqDiff, Nat.reduceAdd, Nat.zero_add, not_false_eq_true, not_true_eq_false]; rfl)), D1, 0, _, (by first | rfl | (simp only [wk, wt, wl, ↓reduceIte, Nat.reduceEqDiff, Nat.reduceAdd, Nat.zero_add, not_false_eq_true, not_true_eq_false]; done) | (simp only [wk, wt, wl, ↓reduceIte, Nat.reduceEqDiff, Nat.reduceAdd, Nat.zero_add, not_false_eq_true, not_true_eq_false]; rfl)), by omega, by rw [Nat.add_zero, setB_nil]; exact Q1⟩ ?_
        rintro tm hh ⟨t0, t1, t2, t6, D, j, ps', t7, hj, Q'⟩
        simp only [wk, wt, wl, ↓reduceIte, Nat.reduceEqDiff, Nat.reduceAdd, Nat.zero_add, not_false_eq_true, not_true_eq_false, t0, t1, t2, t6, t7]
        refine condK_dec (fun hd => ?_) (fun hd => ?_)
        · have hlb : (setB (X.cells.set (F - 1) (bl 0)) F (F + j)).length = X.cells.length := by rw [setB_len, List.length_set]
          have HH := Ch.wf D
          obtain ⟨h5, ps5, e5, Q5, D5⟩ := Q'.blankAt (i := F + j) HH (by show F + j < (setB (X.cells.set (F - 1) (bl 0)) F (F + j)).length; rw [hlb]; omega)
          simp only [setB_succ (show F + j < ((X.cells.set (F - 1) (bl 0))).length by rw [List.length_set]; omega)] at Q5
          have IX := Q'.gp.index (z := ((F + j : Nat) : Int)) (by omega) (by show ((F + j : Nat) : Int) < ((setB (X.cells.set (F - 1) (bl 0)) F (F + j)).length : Int); rw [hlb]; omega)
          simp only [Int.toNat_natCast] at IX
          have wj : IntKind.i64.wrap (((F + j : Nat) : Int) + 1) = ((F + (j + 1) : Nat) : Int) := by rw [IntWalk.i64_in _ (by omega)]; omega
          simp only [wk, wt, wl, ↓reduceIte, Nat.reduceEqDiff, Nat.reduceAdd, Nat.zero_add, not_false_eq_true, not_true_eq_false, t0, t1, t2, t6, t7, build_cell1, IX, e5, wj, intOf_int]
          exact ⟨⟨D.thenR D5, j + 1, _, rfl, by omega, Q5⟩, by omega⟩
        · obtain rfl : T = F + j := by omega
          simp only [wk, wt, wl, ↓reduceIte, Nat.reduceEqDiff, Nat.reduceAdd, Nat.zero_add, not_false_eq_true, not_true_eq_false]
          rw [← hwl]
          exact ⟨⟨_, _, _, _, _, _, _, Q'⟩, D⟩
    · have d2 : decide ((p.2.tx.length : Int) = 0) = false := decide_eq_false fun e => c1 (List.eq_nil_of_length_eq_zero (by omega))
      obtain ⟨w, hwd, lw, IT⟩ := step Q (Keeps.refl H).rg rfl rfl
      cases w with
      | true =>
        have hw2 := hw hft hwd
        obtain ⟨h2, ps2, e2, Q2, D2⟩ := Q.blankAt (i := T) H hw2
        have IT2 := Q.gp.index (z := (T : Int)) (by omega) (by omega)
        simp only [Int.toNat_natCast] at IT2
        have hwl := wipe_parts (l := X.cells) hft hT (he hft) (hw hft) rfl rfl
        rw [gF, if_neg c1, if_pos hwd] at hwl
        simp only [wk, wt, wl, ↓reduceIte, Nat.reduceEqDiff, Nat.reduceAdd, Nat.zero_add, not_false_eq_true, not_true_eq_false, pt, l2, d1, IF, a1, a5, LF, d2, build_cell1, wT, IT, lw, IT2, e2]
        refine W_loop (fun tm hh => tm 0 = pt x ∧ tm 1 = .int .i64 (F : Int) ∧ tm 2 = .int .i64 (T : Int) ∧ tm 6 = cv ∧ Ch (Rg Fs h) h hh ∧ ∃ (j : Nat) (ps : List PC), tm 7 = .int .i64 ((F + j : Nat) : Int) ∧ F + j ≤ T ∧ DX hh Fs x { X with cells := setB (X.cells.set T (bl 0)) F (F + j) } cv sv rv ps C S R)
          (fun tm _ => ((T : Int) - intOf (tm 7)).toNat) ⟨(by first | rfl | (simp only [wk, wt, wl, ↓reduceIte, Nat.reduceEqDiff, Nat.reduceAdd, Nat.zero_add, not_false_eq_true, not_true_eq_false]; done) | (simp only [wk, wt, wl, ↓reduceIte, Nat.reduceEqDiff, Nat.reduceAdd, Nat.zero_add, not_false_eq_true, not_true_eq_false]; rfl)), (by first | rfl | (simp only [wk, wt, wl, ↓reduceIte, Nat.reduceEqDiff, Nat.reduceAdd, Nat.zero_add, not_false_eq_true, not_true_eq_false]; done) | (simp only [wk, wt, wl, ↓reduceIte, Nat.reduceEqDiff, Nat.reduceAdd, Nat.zero_add, not_false_eq_true, not_true_eq_false]; rfl)), (by first | rfl | (simp only [wk, wt, wl, ↓reduceIte, Nat.reduceEqDiff, Nat.reduceAdd, Nat.zero_add, not_false_eq_true, not_true_eq_false]; done) | (simp only [wk, wt, wl, ↓reduceIte, Nat.reduceEqDiff, Nat.reduceAdd, Nat.zero_add, not_false_eq_true, not_true_eq_false]; rfl)), (by first | rfl | (simp only [wk, wt, wl, ↓reduceIte, Nat.reduceEqDiff, Nat.reduceAdd, Nat.zero_add, not_false_eq_true, not_true_eq_false]; done) | (simp only [wk, wt, wl, ↓reduceIte, Nat.reduceEqDiff, Nat.reduceAdd, Nat.zero_add, not_false_eq_true, not_true_eq_false]; rfl)), D2, 0, _, (by first | rfl | (simp only [wk, wt, wl, ↓reduceIte, Nat.reduceEqDiff, Nat.reduceAdd, Nat.zero_add, not_false_eq_true, not_true_eq_false]; done) | (simp only [wk, wt, wl, ↓reduceIte, Nat.reduceEqDiff, Nat.reduceAdd, Nat.zero_add, not_false_eq_true, not_true_eq_false]; rfl)), by omega, by rw [Nat.add_zero, setB_nil]; exact Q2⟩ ?_
        rintro tm hh ⟨t0, t1, t2, t6, D, j, ps', t7, hj, Q'⟩
        simp only [wk, wt, wl, ↓reduceIte, Nat.reduceEqDiff, Nat.reduceAdd, Nat.zero_add, not_false_eq_true, not_true_eq_false, t0, t1, t2, t6, t7]
        refine condK_dec (fun hd => ?_) (fun hd => ?_)
        · have hlb : (setB (X.cells.set T (bl 0)) F (F + j)).length = X.cells.length := by rw [setB_len, List.length_set]
          have HH := Ch.wf D
          obtain ⟨h5, ps5, e5, Q5, D5⟩ := Q'.blankAt (i := F + j) HH (by show F + j < (setB (X.cells.set T (bl 0)) F (F + j)).length; rw [hlb]; omega)
          simp only [setB_succ (show F + j < ((X.cells.set T (bl 0))).length by rw [List.length_set]; omega)] at Q5
          have IX := Q'.gp.index (z := ((F + j : Nat) : Int)) (by omega) (by show ((F + j : Nat) : Int) < ((setB (X.cells.set T (bl 0)) F (F + j)).length : Int); rw [hlb]; omega)
          simp only [Int.toNat_natCast] at IX
          have wj : IntKind.i64.wrap (((F + j : Nat) : Int) + 1) = ((F + (j + 1) : Nat) : Int) := by rw [IntWalk.i64_in _ (by omega)]; omega
          simp only [wk, wt, wl, ↓reduceIte, Nat.reduceEqDiff, Nat.reduceAdd, Nat.zero_add, not_false_eq_true, not_true_eq_false, t0, t1, t2, t6, t7, build_cell1, IX, e5, wj, intOf_int]
          exact ⟨⟨D.thenR D5, j + 1, _, rfl, by omega, Q5⟩, by omega⟩
        · obtain rfl : T = F + j := by omega
          simp only [wk, wt, wl, ↓reduceIte, Nat.reduceEqDiff, Nat.reduceAdd, Nat.zero_add, not_false_eq_true, not_true_eq_false]
          rw [← hwl]
          exact ⟨⟨_, _, _, _, _, _, _, Q'⟩, D⟩
      | false =>
        have hwl := wipe_parts (l := X.cells) hft hT (he hft) (hw hft) rfl rfl
        rw [gF, if_neg c1, if_neg (by rw [hwd]; decide)] at hwl
        simp only [wk, wt, wl, ↓reduceIte, Nat.reduceEqDiff, Nat.reduceAdd, Nat.zero_add, not_false_eq_true, not_true_eq_false, pt, l2, d1, IF, a1, a5, LF, d2, build_cell1, wT, IT, lw]
        refine W_loop (fun tm hh => tm 0 = pt x ∧ tm 1 = .int .i64 (F : Int) ∧ tm 2 = .int .i64 (T : Int) ∧ tm 6 = cv ∧ Ch (Rg Fs h) h hh ∧ ∃ (j : Nat) (ps : List PC), tm 7 = .int .i64 ((F + j : Nat) : Int) ∧ F + j ≤ T ∧ DX hh Fs x { X with cells := setB X.cells F (F + j) } cv sv rv ps C S R)
          (fun tm _ => ((T : Int) - intOf (tm 7)).toNat) ⟨(by first | rfl | (simp only [wk, wt, wl, ↓reduceIte, Nat.reduceEqDiff, Nat.reduceAdd, Nat.zero_add, not_false_eq_true, not_true_eq_false]; done) | (simp only [wk, wt, wl, ↓reduceIte, Nat.reduceEqDiff, Nat.reduceAdd, Nat.zero_add, not_false_eq_true, not_true_eq_false]; rfl)), (by first | rfl | (simp only [wk, wt, wl, ↓reduceIte, Nat.reduceEqDiff, Nat.reduceAdd, Nat.zero_add, not_false_eq_true, not_true_eq_false]; done) | (simp only [wk, wt, wl, ↓reduceIte, Nat.reduceEqDiff, Nat.reduceAdd, Nat.zero_add, not_false_eq_true, not_true_eq_false]; rfl)), (by first | rfl | (simp only [wk, wt, wl, ↓reduceIte, Nat.reduceEqDiff, Nat.reduceAdd, Nat.zero_add, not_false_eq_true, not_true_eq_false]; done) | (simp only [wk, wt, wl, ↓reduceIte, Nat.reduceEqDiff, Nat.reduceAdd, Nat.zero_add, not_false_eq_true, not_true_eq_false]; rfl)), (by first | rfl | (simp only [wk, wt, wl, ↓reduceIte, Nat.reduceEqDiff, Nat.reduceAdd, Nat.zero_add, not_false_eq_true, not_true_eq_false]; done) | (simp only [wk, wt, wl, ↓reduceIte, Nat.reduceEqDiff, Nat.reduceAdd, Nat.zero_add, not_false_eq_true, not_true_eq_false]; rfl)), (Keeps.refl H).rg, 0, _, (by first | rfl | (simp only [wk, wt, wl, ↓reduceIte, Nat.reduceEqDiff, Nat.reduceAdd, Nat.zero_add, not_false_eq_true, not_true_eq_false]; done) | (simp only [wk, wt, wl, ↓reduceIte, Nat.reduceEqDiff, Nat.reduceAdd, Nat.zero_add, not_false_eq_true, not_true_eq_false]; rfl)), by omega, by rw [Nat.add_zero, setB_nil]; exact Q⟩ ?_
        rintro tm hh ⟨t0, t1, t2, t6, D, j, ps', t7, hj, Q'⟩
        simp only [wk, wt, wl, ↓reduceIte, Nat.reduceEqDiff, Nat.reduceAdd, Nat.zero_add, not_false_eq_true, not_true_eq_false, t0, t1, t2, t6, t7]
        refine condK_dec (fun hd => ?_) (fun hd => ?_)
        · have hlb : (setB X.cells F (F + j)).length = X.cells.length := by rw [setB_len, show X.cells.length = X.cells.length from rfl]
          have HH := Ch.wf D
          obtain ⟨h5, ps5, e5, Q5, D5⟩ := Q'.blankAt (i := F + j) HH (by show F + j < (setB X.cells F (F + j)).length; rw [hlb]; omega)
          simp only [setB_succ (show F + j < (X.cells).length by rw [show X.cells.length = X.cells.length from rfl]; omega)] at Q5
          have IX := Q'.gp.index (z := ((F + j : Nat) : Int)) (by omega) (by show ((F + j : Nat) : Int) < ((setB X.cells F (F + j)).length : Int); rw [hlb]; omega)
          simp only [Int.toNat_natCast] at IX
          have wj : IntKind.i64.wrap (((F + j : Nat) : Int) + 1) = ((F + (j + 1) : Nat) : Int) := by rw [IntWalk.i64_in _ (by omega)]; omega
          simp only [wk, wt, wl, ↓reduceIte, Nat.reduceEqDiff, Nat.reduceAdd, Nat.zero_add, not_false_eq_true, not_true_eq_false, t0, t1, t2, t6, t7, build_cell1, IX, e5, wj, intOf_int]
          exact ⟨⟨D.thenR D5, j + 1, _, rfl, by omega, Q5⟩, by omega⟩
        · obtain rfl : T = F + j := by omega
          simp only [wk, wt, wl, ↓reduceIte, Nat.reduceEqDiff, Nat.reduceAdd, Nat.zero_add, not_false_eq_true, not_true_eq_false]
          rw [← hwl]
          exact ⟨⟨_, _, _, _, _, _, _, Q'⟩, D⟩
  · have d1 : decide ((F : Int) < (T : Int)) = false := decide_eq_false (by omega)
    have hwl : wipeL X.cells F T = X.cells := by unfold wipeL; rw [if_neg hft]
    rw [hwl]
    simp only [wk, wt, wl, ↓reduceIte, Nat.reduceEqDiff, Nat.reduceAdd, Nat.zero_add, not_false_eq_true, not_true_eq_false, pt, l2, d1]
    refine W_loop (fun tm hh => hh = h ∧ tm 1 = .int .i64 (F : Int) ∧ tm 2 = .int .i64 (T : Int) ∧ tm 7 = .int .i64 (F : Int)) (fun _ _ => 0) ⟨rfl, (by first | rfl | (simp only [wk, wt, wl, ↓reduceIte, Nat.reduceEqDiff, Nat.reduceAdd, Nat.zero_add, not_false_eq_true, not_true_eq_false]; done) | (simp only [wk, wt, wl, ↓reduceIte, Nat.reduceEqDiff, Nat.reduceAdd, Nat.zero_add, not_false_eq_true, not_true_eq_false]; rfl)), (by first | rfl | (simp only [wk, wt, wl, ↓reduceIte, Nat.reduceEqDiff, Nat.reduceAdd, Nat.zero_add, not_false_eq_true, not_true_eq_false]; done) | (simp only [wk, wt, wl, ↓reduceIte, Nat.reduceEqDiff, Nat.reduceAdd, Nat.zero_add, not_false_eq_true, not_true_eq_false]; rfl)), (by first | rfl | (simp only [wk, wt, wl, ↓reduceIte, Nat.reduceEqDiff, Nat.reduceAdd, Nat.zero_add, not_false_eq_true, not_true_eq_false]; done) | (simp only [wk, wt, wl, ↓reduceIte, Nat.reduceEqDiff, Nat.reduceAdd, Nat.zero_add, not_false_eq_true, not_true_eq_false]; rfl))⟩ ?_
    rintro tm hh ⟨rfl, t1, t2, t7⟩
    simp only [wk, wt, wl, ↓reduceIte, Nat.reduceEqDiff, Nat.reduceAdd, Nat.zero_add, not_false_eq_true, not_true_eq_false, t1, t2, t7, d1]
    exact ⟨⟨_, _, _, _, _, _, _, Q⟩, (Keeps.refl H).rg⟩
end Go.Proofs.YtefpalmihdbmiaaDoor.Am
end
