/- Marks: places and changes in plain terms; contracts of marks.Move, of the document's Move and of the law's near, by walks. -/
import Derived.Test.YtepibodbcheobaaAmKind4
import Derived.Test.YtepibodbcheobaaAmRound
import Derived.Test.YtepibodbcheobaaAmF
set_option linter.unusedSimpArgs false
set_option linter.unusedVariables false
set_option maxHeartbeats 4000000
set_option maxRecDepth 20000
namespace Go.Proofs.Ytepibodbcheobaa.Am
open Go Go.RowKit Go.Proofs.Try
def intOf : Value → Int
  | .int _ x => x
  | _ => 0
theorem intOf_int {k : IntKind} {x : Int} : intOf (.int k x) = x := rfl
theorem dropAt {α : Type} {us : List α} {j : Nat} {u : α} (h : us[j]? = some u) : us.drop j = u :: us.drop (j + 1) := by
  obtain ⟨hj, e⟩ := List.getElem?_eq_some_iff.1 h
  rw [List.drop_eq_getElem_cons hj, e]
def boxV (P : Program) (h : Heap) (e : TypeId) (v : Value) : Option (Value × Heap) := match asz P e with | some _ => if v.cells.all one = true then some (.pointer (some ⟨h.size, 0, none⟩), h.new e v.cells.toList) else none | none => none
theorem aeff_box {P : Program} {h : Heap} {tm : Tm} {e : TypeId} {x : Operand} : aeff P tm h (.box e x) = boxV P h e (ev tm x) := rfl
theorem boxV_one {P : Program} {h : Heap} {e : TypeId} {v : Value} {m : Nat} (hs : asz P e = some m) (h1 : one v = true) : boxV P h e v = some (.pointer (some ⟨h.size, 0, none⟩), h.new e [v]) := by
  simp [boxV, hs, one_cells h1, h1]
theorem abuiltin_max {k : IntKind} {ts : Array TypeId} {x y : Int} : abuiltin prog .max ts #[.int k x, .int k y] = some (.int k (if x < y then y else x)) := by simp [abuiltin, amm]
theorem abuiltin_min {k : IntKind} {ts : Array TypeId} {x y : Int} : abuiltin prog .min ts #[.int k x, .int k y] = some (.int k (if y < x then y else x)) := by simp [abuiltin, amm]
def imax (x y : Int) : Int := if x < y then y else x
def imin (x y : Int) : Int := if y < x then y else x
theorem imax_spec (x y : Int) : x ≤ imax x y ∧ y ≤ imax x y ∧ (imax x y = x ∨ imax x y = y) := by unfold imax; split <;> omega
theorem imin_spec (x y : Int) : imin x y ≤ x ∧ imin x y ≤ y ∧ (imin x y = x ∨ imin x y = y) := by unfold imin; split <;> omega
theorem mxV {k : IntKind} {ts : Array TypeId} {x y : Int} : abuiltin prog .max ts #[.int k x, .int k y] = some (.int k (imax x y)) := abuiltin_max
theorem mnV {k : IntKind} {ts : Array TypeId} {x y : Int} : abuiltin prog .min ts #[.int k x, .int k y] = some (.int k (imin x y)) := abuiltin_min
def pt (b : Nat) : Value := .pointer (some ⟨b, 0, none⟩)
/-- A text: lines of runes. -/
def LT (h : Heap) (v : Value) (ls : List (List Int)) : Prop :=
  ∃ vs : List Value, vs.length = ls.length ∧ Rd prog h 1 v vs.length vs ∧ ∀ (i : Nat) x xs, vs[i]? = some x → ls[i]? = some xs → RdI prog h .i32 x xs
theorem LT.keeps {h h' : Heap} {v : Value} {ls : List (List Int)} (T : LT h v ls) (K : Keeps h h') : LT h' v ls := by
  obtain ⟨vs, h1, h2, h3⟩ := T
  exact ⟨vs, h1, h2.keeps K, fun i x xs hx hl => (h3 i x xs hx hl).keeps K⟩
theorem LT.len {h : Heap} {v : Value} {ls : List (List Int)} (T : LT h v ls) : abuiltin prog .len #[24] #[v] = some (.int .i64 ls.length) := by
  obtain ⟨vs, h1, h2, h3⟩ := T
  rw [← h1]; exact h2.len underlying24
theorem LT.one {h : Heap} {v : Value} {ls : List (List Int)} (T : LT h v ls) : one v = true := by
  obtain ⟨vs, h1, h2, h3⟩ := T
  exact h2.one
theorem LT.index {h : Heap} {v : Value} {ls : List (List Int)} (T : LT h v ls) {i : Nat} (hi : i < ls.length) : aindexAddr prog 24 v (.int .i64 (i : Int)) = some (.pointer (some (eltA v 1 i))) := by
  obtain ⟨vs, h1, h2, h3⟩ := T
  have := Rd.index h2 underlying24 asz53 (q := .i64) (i := (i : Int)) (by omega) (by omega)
  simpa using this
theorem LT.at {h : Heap} {v : Value} {ls : List (List Int)} (T : LT h v ls) {i : Nat} {xs : List Int} (hx : ls[i]? = some xs) : ∃ x, aload prog h 53 (eltA v 1 i) = some x ∧ RdI prog h .i32 x xs := by
  obtain ⟨vs, h1, h2, h3⟩ := T
  have hi : i < vs.length := by have := (List.getElem?_eq_some_iff.1 hx).1; omega
  have hv : vs[i]? = some vs[i] := List.getElem?_eq_getElem hi
  refine ⟨vs[i], ?_, h3 i _ xs hv hx⟩
  have := Rd.at0 h2 (t := 53) underlying53 rfl hi (by decide)
  rw [this, Nat.mul_one, hv]
def posV (a b : Int) : Value := .agg #[.int .i64 a, .int .i64 b]
def chV (c : Int) (ov nv : Value) : Value := .agg #[.int .i64 c, ov, nv]
theorem boxV_pos {h : Heap} {a b : Int} : boxV prog h 23 (posV a b) = some (.pointer (some ⟨h.size, 0, none⟩), h.new 23 [.int .i64 a, .int .i64 b]) := by
  simp [boxV, asz23, posV, Value.cells, one]
theorem boxV_ch {h : Heap} {c : Int} {ov nv : Value} (oo : one ov = true) (on : one nv = true) : boxV prog h 26 (chV c ov nv) = some (.pointer (some ⟨h.size, 0, none⟩), h.new 26 [.int .i64 c, ov, nv]) := by
  simp [boxV, asz26, chV, Value.cells, oo, on, one_int]
theorem build_p0 : abuild prog 23 #[] = some (.agg #[.int .i64 0, .int .i64 0]) := by simp [abuild, wt, aplaces, Instr.fill, Value.cells]
theorem build_p1 {x : Int} : abuild prog 23 #[(0, .int .i64 x)] = some (.agg #[.int .i64 x, .int .i64 0]) := by simp [abuild, wt, aplaces, Instr.fill, Value.cells]
theorem build_p2 {x y : Int} : abuild prog 23 #[(0, .int .i64 x), (1, .int .i64 y)] = some (.agg #[.int .i64 x, .int .i64 y]) := by simp [abuild, wt, aplaces, Instr.fill, Value.cells]
theorem stood_pos : prog.stoodInHeld 23 = false := by kernel_rfl
theorem guard_pos : prog.eqGuardType prog.depth 23 = false := by kernel_rfl
theorem eql_pos {x y z w : Int} : abin prog .eql 23 (.agg #[.int .i64 x, .int .i64 y]) (.agg #[.int .i64 z, .int .i64 w]) = some (.bool (decide (x = z) && decide (y = w))) := by
  by_cases h1 : x = z <;> by_cases h2 : y = w <;> simp [abin, aeq, underlying23, stood_pos, guard_pos, aeqF, apart, aeq1, wt, isAggD, h1, h2]
/-- Where a change leaves a place. -/
def moveZ (pl pc at_ o : Int) (news : List (List Int)) : (Int × Int) × Bool :=
  if pl < at_ then ((pl, pc), true) else if o ≤ pl - at_ then ((pl + (news.length - o), pc), true) else if (news.length : Int) ≤ pl - at_ then ((0, 0), false) else ((pl, imin pc (news.getD (pl - at_).toNat []).length), true)
def moveV (m : (Int × Int) × Bool) : Value := .tuple #[posV m.1.1 m.1.2, .bool m.2]
/-- The place told is laid in the result. -/
theorem move_ok {ov nv : Value} {pl pc c : Int} {o : Nat} {news : List (List Int)} {h : Heap} (T : LT h nv news) (LO : abuiltin prog .len #[24] #[ov] = some (.int .i64 o)) (oo : one ov = true)
    (hp : -1099511627776 ≤ pl ∧ pl ≤ 1099511627776) (hc : -1099511627776 ≤ c ∧ c ≤ 1099511627776) (ho : o ≤ 1099511627776) (hn : news.length ≤ 1099511627776) :
    ACalls prog 9 #[posV pl pc, chV c ov nv] h (fun y h' => y = moveV (moveZ pl pc c o news) ∧ Keeps h h') := by
  refine acalls_of_W' func9 rfl (by kernel_rfl) (by kernel_rfl) (by simp [ntmps9]) ?_
  intro H
  have N1 := Keeps.new H 23 [.int .i64 pl, .int .i64 pc]
  have V1 := Var.new (e := 23) H (cs := [.int .i64 pl, .int .i64 pc])
  have N2 := Keeps.new (Ch.wf N1) 26 [.int .i64 c, ov, nv]
  have V2 := Var.new (e := 26) (Ch.wf N1) (cs := [.int .i64 c, ov, nv])
  have N3 := Keeps.new (Ch.wf N2) 23 [.int .i64 0, .int .i64 0]
  have V3 := Var.new (e := 23) (Ch.wf N2) (cs := [.int .i64 0, .int .i64 0])
  simp only [new_size] at V2 V3
  have V1 := Keeps.var (Ch.wf N2) N3 (Keeps.var (Ch.wf N1) N2 V1)
  have V2 := Keeps.var (Ch.wf N2) N3 V2
  have K3 := (N1.trans N2).trans N3
  have T3 := T.keeps K3
  have P0 := fun {hh : Heap} {a b : Int} (V : Var hh h.size [.int .i64 a, .int .i64 b]) => V.load1 (P := prog) (t := 3) underlying3 rfl (i := 0)
  have P1 := fun {hh : Heap} {a b : Int} (V : Var hh h.size [.int .i64 a, .int .i64 b]) => V.load1 (P := prog) (t := 3) underlying3 rfl (i := 1)
  have PA := fun {hh : Heap} {a b : Int} (V : Var hh h.size [.int .i64 a, .int .i64 b]) => V.loadA (P := prog) (t := 23) underlying23 rfl asz23
  have RA := fun {hh : Heap} {a b : Int} (V : Var hh (h.size + 2) [.int .i64 a, .int .i64 b]) => V.loadA (P := prog) (t := 23) underlying23 rfl asz23
  have C0 := fun {hh : Heap} (V : Var hh (h.size + 1) [.int .i64 c, ov, nv]) => V.load1 (P := prog) (t := 3) underlying3 rfl (i := 0)
  have C1 := fun {hh : Heap} (V : Var hh (h.size + 1) [.int .i64 c, ov, nv]) => V.load1 (P := prog) (t := 24) underlying24 rfl (i := 1)
  have C2 := fun {hh : Heap} (V : Var hh (h.size + 1) [.int .i64 c, ov, nv]) => V.load1 (P := prog) (t := 24) underlying24 rfl (i := 2)
  simp only [List.getElem?_cons_succ, List.getElem?_cons_zero] at P0 P1 C0 C1 C2
  have on := T.one
  have wk1 : IntKind.i64.wrap (pl - c) = pl - c := IntWalk.i64_in _ (by omega)
  have wn : IntKind.i64.wrap ((news.length : Int) - o) = news.length - o := IntWalk.i64_in _ (by omega)
  have wpn : IntKind.i64.wrap (pl + ((news.length : Int) - o)) = pl + (news.length - o) := IntWalk.i64_in _ (by omega)
  simp only [wk, wt, wl, ↓reduceIte, Nat.reduceEqDiff, Nat.reduceAdd, Nat.zero_add, not_false_eq_true, not_true_eq_false, aeff_box, boxV_pos, boxV_ch oo on, new_size]
  generalize ((h.new 23 [.int .i64 pl, .int .i64 pc]).new 26 [.int .i64 c, ov, nv]).new 23 [.int .i64 0, .int .i64 0] = h3 at *
  by_cases c1 : pl < c
  · have d1 := decide_eq_true c1
    obtain ⟨h9, e9, V9, C9, z9⟩ := V3.store (P := prog) (t := 23) (v := .agg #[.int .i64 (pl), .int .i64 (pc)]) (i := 0) (Ch.wf K3) asz23 (by simp [Value.cells]) (by simp [Value.cells, one])
    simp only [Value.cells, over_all (xs := [.int .i64 0, .int .i64 0]) (vs := [.int .i64 (pl), .int .i64 (pc)]) rfl] at V9
    have K9 := K3.step C9 fun b e => by omega
    simp only [wk, wt, wl, ↓reduceIte, Nat.reduceEqDiff, Nat.reduceAdd, Nat.zero_add, not_false_eq_true, not_true_eq_false, P0 V1, P1 V1, PA V1, C0 V2, wk1, d1, e9, RA V9]
    exact ⟨by simp [moveZ, moveV, posV, c1], K9⟩
  · have d1 := decide_eq_false c1
    by_cases c2 : (o : Int) ≤ pl - c
    · have d2 := decide_eq_true c2
      obtain ⟨h4, e4, V4, C4, z4⟩ := V1.store1 (P := prog) (t := 3) (v := .int .i64 (pl + ((news.length : Int) - o))) (i := 0) (Ch.wf K3) asz3 (by simp) rfl
      simp only [List.set_cons_zero] at V4
      have K4 := K3.step C4 fun b e => by omega
      have V34 := Ch.var (Ch.wf K3) C4 V3 (by omega)
      obtain ⟨h9, e9, V9, C9, z9⟩ := V34.store (P := prog) (t := 23) (v := .agg #[.int .i64 (pl + ((news.length : Int) - o)), .int .i64 (pc)]) (i := 0) (Ch.wf K4) asz23 (by simp [Value.cells]) (by simp [Value.cells, one])
      simp only [Value.cells, over_all (xs := [.int .i64 0, .int .i64 0]) (vs := [.int .i64 (pl + ((news.length : Int) - o)), .int .i64 (pc)]) rfl] at V9
      have K9 := K4.step C9 fun b e => by omega
      simp only [wk, wt, wl, ↓reduceIte, Nat.reduceEqDiff, Nat.reduceAdd, Nat.zero_add, not_false_eq_true, not_true_eq_false, P0 V1, P1 V1, C0 V2, C1 V2, C2 V2, wk1, LO, T3.len, d1, d2, wn, wpn, e4, PA V4, e9, RA V9]
      exact ⟨by simp [moveZ, moveV, posV, c1, c2], K9⟩
    · have d2 := decide_eq_false c2
      by_cases c3 : (news.length : Int) ≤ pl - c
      · have d3 := decide_eq_true c3
        obtain ⟨h9, e9, V9, C9, z9⟩ := V3.store (P := prog) (t := 23) (v := .agg #[.int .i64 (0), .int .i64 (0)]) (i := 0) (Ch.wf K3) asz23 (by simp [Value.cells]) (by simp [Value.cells, one])
        simp only [Value.cells, over_all (xs := [.int .i64 0, .int .i64 0]) (vs := [.int .i64 (0), .int .i64 (0)]) rfl] at V9
        have K9 := K3.step C9 fun b e => by omega
        simp only [wk, wt, wl, ↓reduceIte, Nat.reduceEqDiff, Nat.reduceAdd, Nat.zero_add, not_false_eq_true, not_true_eq_false, P0 V1, P1 V1, C0 V2, C1 V2, C2 V2, wk1, LO, T3.len, d1, d2, d3, build_p0, e9, RA V9]
        exact ⟨by simp [moveZ, moveV, posV, c1, c2, c3], K9⟩
      · have d3 := decide_eq_false c3
        obtain ⟨k, hk⟩ : ∃ k : Nat, pl - c = (k : Int) := ⟨(pl - c).toNat, by omega⟩
        have hkl : k < news.length := by omega
        obtain ⟨xs, hxs⟩ : ∃ xs, news[k]? = some xs := ⟨news[k], List.getElem?_eq_getElem hkl⟩
        obtain ⟨xv, X1, X2⟩ := T3.at hxs
        have hgd : news.getD (pl - c).toNat [] = xs := by rw [hk]; simp [List.getD, hxs]
        obtain ⟨h4, e4, V4, C4, z4⟩ := V1.store1 (P := prog) (t := 3) (v := .int .i64 (imin pc xs.length)) (i := 1) (Ch.wf K3) asz3 (by simp) rfl
        simp only [List.set_cons_succ, List.set_cons_zero] at V4
        have K4 := K3.step C4 fun b e => by omega
        have V34 := Ch.var (Ch.wf K3) C4 V3 (by omega)
        obtain ⟨h9, e9, V9, C9, z9⟩ := V34.store (P := prog) (t := 23) (v := .agg #[.int .i64 (pl), .int .i64 (imin pc xs.length)]) (i := 0) (Ch.wf K4) asz23 (by simp [Value.cells]) (by simp [Value.cells, one])
        simp only [Value.cells, over_all (xs := [.int .i64 0, .int .i64 0]) (vs := [.int .i64 (pl), .int .i64 (imin pc xs.length)]) rfl] at V9
        have K9 := K4.step C9 fun b e => by omega
        have wk2 : IntKind.i64.wrap (pl - c) = (k : Int) := by rw [wk1]; exact hk
        have d2' : decide ((o : Int) ≤ (k : Int)) = false := by rw [← hk]; exact d2
        have d3' : decide ((news.length : Int) ≤ (k : Int)) = false := by rw [← hk]; exact d3
        simp only [wk, wt, wl, ↓reduceIte, Nat.reduceEqDiff, Nat.reduceAdd, Nat.zero_add, not_false_eq_true, not_true_eq_false, P0 V1, P1 V1, C0 V2, C1 V2, C2 V2, wk2, LO, T3.len, d1, d2', d3']
        refine adraw_order [(0, false), (1, false), (2, false), (3, false), (4, false), (5, false), (6, false), (7, false), (8, false), (9, false), (10, false)] mixed (by kernel_rfl) (by kernel_rfl) (by kernel_rfl) (by with_reducible repeat (first | exact PF_retK | refine PF_thenK ?_ | refine PF_blockK ?_)) ?_
        simp only [wk, wt, wl, ↓reduceIte, Nat.reduceEqDiff, Nat.reduceAdd, Nat.zero_add, not_false_eq_true, not_true_eq_false, dK_t, P0 V1, P1 V1, C0 V2, C1 V2, C2 V2, T3.index hkl, X1, X2.len underlying53, mnV, e4]
        simp only [wk, wt, wl, ↓reduceIte, Nat.reduceEqDiff, Nat.reduceAdd, Nat.zero_add, not_false_eq_true, not_true_eq_false, PA V4, e9, RA V9]
        exact ⟨by simp only [moveZ, moveV, posV]; rw [if_neg c1, if_neg c2, if_neg c3, hgd], K9⟩
theorem refMove_ok {ov nv : Value} {pl pc c : Int} {o : Nat} {news : List (List Int)} {h : Heap} (T : LT h nv news) (LO : abuiltin prog .len #[24] #[ov] = some (.int .i64 o)) (oo : one ov = true)
    (hp : -1099511627776 ≤ pl ∧ pl ≤ 1099511627776) (hc : -1099511627776 ≤ c ∧ c ≤ 1099511627776) (ho : o ≤ 1099511627776) (hn : news.length ≤ 1099511627776) :
    ACalls prog 10 #[posV pl pc, chV c ov nv] h (fun y h' => y = moveV (moveZ pl pc c o news) ∧ Keeps h h') := by
  refine acalls_of_W' func10 rfl (by kernel_rfl) (by kernel_rfl) (by simp [ntmps10]) ?_
  intro H
  have N1 := Keeps.new H 23 [.int .i64 pl, .int .i64 pc]
  have V1 := Var.new (e := 23) H (cs := [.int .i64 pl, .int .i64 pc])
  have N2 := Keeps.new (Ch.wf N1) 26 [.int .i64 c, ov, nv]
  have V2 := Var.new (e := 26) (Ch.wf N1) (cs := [.int .i64 c, ov, nv])
  have N3 := Keeps.new (Ch.wf N2) 23 [.int .i64 0, .int .i64 0]
  have V3 := Var.new (e := 23) (Ch.wf N2) (cs := [.int .i64 0, .int .i64 0])
  simp only [new_size] at V2 V3
  have V1 := Keeps.var (Ch.wf N2) N3 (Keeps.var (Ch.wf N1) N2 V1)
  have V2 := Keeps.var (Ch.wf N2) N3 V2
  have K3 := (N1.trans N2).trans N3
  have T3 := T.keeps K3
  have P0 := fun {hh : Heap} {a b : Int} (V : Var hh h.size [.int .i64 a, .int .i64 b]) => V.load1 (P := prog) (t := 3) underlying3 rfl (i := 0)
  have P1 := fun {hh : Heap} {a b : Int} (V : Var hh h.size [.int .i64 a, .int .i64 b]) => V.load1 (P := prog) (t := 3) underlying3 rfl (i := 1)
  have PA := fun {hh : Heap} {a b : Int} (V : Var hh h.size [.int .i64 a, .int .i64 b]) => V.loadA (P := prog) (t := 23) underlying23 rfl asz23
  have RA := fun {hh : Heap} {a b : Int} (V : Var hh (h.size + 2) [.int .i64 a, .int .i64 b]) => V.loadA (P := prog) (t := 23) underlying23 rfl asz23
  have C0 := fun {hh : Heap} (V : Var hh (h.size + 1) [.int .i64 c, ov, nv]) => V.load1 (P := prog) (t := 3) underlying3 rfl (i := 0)
  have C1 := fun {hh : Heap} (V : Var hh (h.size + 1) [.int .i64 c, ov, nv]) => V.load1 (P := prog) (t := 24) underlying24 rfl (i := 1)
  have C2 := fun {hh : Heap} (V : Var hh (h.size + 1) [.int .i64 c, ov, nv]) => V.load1 (P := prog) (t := 24) underlying24 rfl (i := 2)
  simp only [List.getElem?_cons_succ, List.getElem?_cons_zero] at P0 P1 C0 C1 C2
  have on := T.one
  have wk1 : IntKind.i64.wrap (pl - c) = pl - c := IntWalk.i64_in _ (by omega)
  have wn : IntKind.i64.wrap ((news.length : Int) - o) = news.length - o := IntWalk.i64_in _ (by omega)
  have wpn : IntKind.i64.wrap (pl + ((news.length : Int) - o)) = pl + (news.length - o) := IntWalk.i64_in _ (by omega)
  simp only [wk, wt, wl, ↓reduceIte, Nat.reduceEqDiff, Nat.reduceAdd, Nat.zero_add, not_false_eq_true, not_true_eq_false, aeff_box, boxV_pos, boxV_ch oo on, new_size]
  generalize ((h.new 23 [.int .i64 pl, .int .i64 pc]).new 26 [.int .i64 c, ov, nv]).new 23 [.int .i64 0, .int .i64 0] = h3 at *
  by_cases c1 : pl < c
  · have d1 := decide_eq_true c1
    obtain ⟨h9, e9, V9, C9, z9⟩ := V3.store (P := prog) (t := 23) (v := .agg #[.int .i64 (pl), .int .i64 (pc)]) (i := 0) (Ch.wf K3) asz23 (by simp [Value.cells]) (by simp [Value.cells, one])
    simp only [Value.cells, over_all (xs := [.int .i64 0, .int .i64 0]) (vs := [.int .i64 (pl), .int .i64 (pc)]) rfl] at V9
    have K9 := K3.step C9 fun b e => by omega
    simp only [wk, wt, wl, ↓reduceIte, Nat.reduceEqDiff, Nat.reduceAdd, Nat.zero_add, not_false_eq_true, not_true_eq_false, P0 V1, P1 V1, PA V1, C0 V2, wk1, d1, e9, RA V9]
    exact ⟨by simp [moveZ, moveV, posV, c1], K9⟩
  · have d1 := decide_eq_false c1
    by_cases c2 : (o : Int) ≤ pl - c
    · have d2 := decide_eq_true c2
      have w2 : IntKind.i64.wrap (pl + (news.length : Int)) = pl + news.length := IntWalk.i64_in _ (by omega)
      have w3 : IntKind.i64.wrap (pl + (news.length : Int) - o) = pl + (news.length - o) := by rw [IntWalk.i64_in _ (by omega)]; omega
      obtain ⟨h9, e9, V9, C9, z9⟩ := V3.store (P := prog) (t := 23) (v := .agg #[.int .i64 (pl + ((news.length : Int) - o)), .int .i64 (pc)]) (i := 0) (Ch.wf K3) asz23 (by simp [Value.cells]) (by simp [Value.cells, one])
      simp only [Value.cells, over_all (xs := [.int .i64 0, .int .i64 0]) (vs := [.int .i64 (pl + ((news.length : Int) - o)), .int .i64 (pc)]) rfl] at V9
      have K9 := K3.step C9 fun b e => by omega
      simp only [wk, wt, wl, ↓reduceIte, Nat.reduceEqDiff, Nat.reduceAdd, Nat.zero_add, not_false_eq_true, not_true_eq_false, P0 V1, P1 V1, C0 V2, C1 V2, C2 V2, wk1, LO, T3.len, d1, d2, w2, w3, build_p2, e9, RA V9]
      exact ⟨by simp [moveZ, moveV, posV, c1, c2], K9⟩
    · have d2 := decide_eq_false c2
      by_cases c3 : (news.length : Int) ≤ pl - c
      · have d3 := decide_eq_true c3
        obtain ⟨h9, e9, V9, C9, z9⟩ := V3.store (P := prog) (t := 23) (v := .agg #[.int .i64 (0), .int .i64 (0)]) (i := 0) (Ch.wf K3) asz23 (by simp [Value.cells]) (by simp [Value.cells, one])
        simp only [Value.cells, over_all (xs := [.int .i64 0, .int .i64 0]) (vs := [.int .i64 (0), .int .i64 (0)]) rfl] at V9
        have K9 := K3.step C9 fun b e => by omega
        simp only [wk, wt, wl, ↓reduceIte, Nat.reduceEqDiff, Nat.reduceAdd, Nat.zero_add, not_false_eq_true, not_true_eq_false, P0 V1, P1 V1, C0 V2, C1 V2, C2 V2, wk1, LO, T3.len, d1, d2, d3, build_p0, e9, RA V9]
        exact ⟨by simp [moveZ, moveV, posV, c1, c2, c3], K9⟩
      · have d3 := decide_eq_false c3
        obtain ⟨k, hk⟩ : ∃ k : Nat, pl - c = (k : Int) := ⟨(pl - c).toNat, by omega⟩
        have hkl : k < news.length := by omega
        obtain ⟨xs, hxs⟩ : ∃ xs, news[k]? = some xs := ⟨news[k], List.getElem?_eq_getElem hkl⟩
        obtain ⟨xv, X1, X2⟩ := T3.at hxs
        have hgd : news.getD (pl - c).toNat [] = xs := by rw [hk]; simp [List.getD, hxs]
        obtain ⟨h9, e9, V9, C9, z9⟩ := V3.store (P := prog) (t := 23) (v := .agg #[.int .i64 (pl), .int .i64 (imin pc xs.length)]) (i := 0) (Ch.wf K3) asz23 (by simp [Value.cells]) (by simp [Value.cells, one])
        simp only [Value.cells, over_all (xs := [.int .i64 0, .int .i64 0]) (vs := [.int .i64 (pl), .int .i64 (imin pc xs.length)]) rfl] at V9
        have K9 := K3.step C9 fun b e => by omega
        have wk2 : IntKind.i64.wrap (pl - c) = (k : Int) := by rw [wk1]; exact hk
        have d2' : decide ((o : Int) ≤ (k : Int)) = false := by rw [← hk]; exact d2
        have d3' : decide ((news.length : Int) ≤ (k : Int)) = false := by rw [← hk]; exact d3
        simp only [wk, wt, wl, ↓reduceIte, Nat.reduceEqDiff, Nat.reduceAdd, Nat.zero_add, not_false_eq_true, not_true_eq_false, P0 V1, P1 V1, C0 V2, C1 V2, C2 V2, wk2, LO, T3.len, d1, d2', d3']
        refine adraw_order [(0, false), (1, false), (2, false), (3, false), (4, false), (5, false), (6, false), (7, false), (8, false), (9, false), (10, false), (11, false), (12, false), (13, false), (14, false), (15, false), (16, false), (17, false)] mixed (by kernel_rfl) (by kernel_rfl) (by kernel_rfl) (by with_reducible repeat (first | exact PF_retK | refine PF_thenK ?_ | refine PF_blockK ?_)) ?_
        simp only [wk, wt, wl, ↓reduceIte, Nat.reduceEqDiff, Nat.reduceAdd, Nat.zero_add, not_false_eq_true, not_true_eq_false, dK_t, P0 V1, P1 V1, C0 V2, C1 V2, C2 V2, wk2, T3.index hkl, X1, X2.len underlying53, mnV, build_p2, e9, RA V9]
        exact ⟨by simp only [moveZ, moveV, posV]; rw [if_neg c1, if_neg c2, if_neg c3, hgd], K9⟩
def nearB (pl c : Int) : Bool := decide (pl ≤ 1099511627776) && decide (-1099511627776 ≤ pl) && decide (c ≤ 1099511627776) && decide (-1099511627776 ≤ c)
theorem near_ok {ov nv : Value} {pl pc c : Int} {h : Heap} (oo : one ov = true) (on : one nv = true) : ACalls prog 8 #[posV pl pc, chV c ov nv] h (fun y h' => y = .bool (nearB pl c) ∧ Keeps h h') := by
  refine acalls_of_W' func8 rfl (by kernel_rfl) (by kernel_rfl) (by simp [ntmps8]) ?_
  intro H
  have N1 := Keeps.new H 23 [.int .i64 pl, .int .i64 pc]
  have V1 := Var.new (e := 23) H (cs := [.int .i64 pl, .int .i64 pc])
  have N2 := Keeps.new (Ch.wf N1) 26 [.int .i64 c, ov, nv]
  have V2 := Var.new (e := 26) (Ch.wf N1) (cs := [.int .i64 c, ov, nv])
  simp only [new_size] at V2
  have V1 := Keeps.var (Ch.wf N1) N2 V1
  have A0 := V1.load1 (P := prog) (t := 3) underlying3 rfl (i := 0)
  have A1 := V2.load1 (P := prog) (t := 3) underlying3 rfl (i := 0)
  simp only [List.getElem?_cons_succ, List.getElem?_cons_zero] at A0 A1
  by_cases c1 : pl ≤ 1099511627776
  · have d1 := decide_eq_true c1
    by_cases c2 : -1099511627776 ≤ pl
    · have d2 := decide_eq_true c2
      by_cases c3 : c ≤ 1099511627776
      · have d3 := decide_eq_true c3
        simp only [wk, wt, wl, ↓reduceIte, Nat.reduceEqDiff, Nat.reduceAdd, Nat.zero_add, not_false_eq_true, not_true_eq_false, aeff_box, boxV_pos, boxV_ch oo on, new_size, A0, A1, d1, d2, d3]
        exact ⟨by simp [nearB, d1, d2, d3], N1.trans N2⟩
      · have d3 := decide_eq_false c3
        simp only [wk, wt, wl, ↓reduceIte, Nat.reduceEqDiff, Nat.reduceAdd, Nat.zero_add, not_false_eq_true, not_true_eq_false, aeff_box, boxV_pos, boxV_ch oo on, new_size, A0, A1, d1, d2, d3]
        exact ⟨by simp [nearB, d1, d2, d3], N1.trans N2⟩
    · have d2 := decide_eq_false c2
      simp only [wk, wt, wl, ↓reduceIte, Nat.reduceEqDiff, Nat.reduceAdd, Nat.zero_add, not_false_eq_true, not_true_eq_false, aeff_box, boxV_pos, boxV_ch oo on, new_size, A0, A1, d1, d2]
      exact ⟨by simp [nearB, d1, d2], N1.trans N2⟩
  · have d1 := decide_eq_false c1
    simp only [wk, wt, wl, ↓reduceIte, Nat.reduceEqDiff, Nat.reduceAdd, Nat.zero_add, not_false_eq_true, not_true_eq_false, aeff_box, boxV_pos, boxV_ch oo on, new_size, A0, A1, d1]
    exact ⟨by simp [nearB, d1], N1.trans N2⟩
end Go.Proofs.Ytepibodbcheobaa.Am
