/- Where a rune of a line is shown: contracts of cell.Col, cell.At and cell.Columns, by walks. -/
import Derived.Test.YtcnjmmffipjadaaDoorFg
set_option linter.unusedSimpArgs false
set_option linter.unusedVariables false
set_option maxHeartbeats 2000000
namespace Go.Proofs.YtcnjmmffipjadaaDoor.Am
open Go Go.RowKit Go.Proofs.Tryd
/-- The first unit that ends behind rune i. -/
def colOf (us : List U) (i : Int) (e : Int) : Int × Int :=
  match us with
  | [] => (e, 1)
  | u :: us => if i < u.to then (u.col, u.wd) else colOf us i (u.col + u.wd)
def atOf (us : List U) (c : Int) (n : Int) : Int :=
  match us with
  | [] => n
  | u :: us => if c < u.col + u.wd then u.fr else atOf us c n
theorem UR.at {h : Heap} {l : Value} {uv : List (U × Value)} (H : UR h l uv) {i : Nat} (hi : i < uv.length) : aload prog h 36 (eltA l 5 i) = some (.agg #[.int .i64 (uv[i]).1.fr, .int .i64 (uv[i]).1.to, .int .i64 (uv[i]).1.col, .int .i64 (uv[i]).1.wd, (uv[i]).2]) := by
  obtain ⟨h1, h2⟩ := H.rd
  have hc : ((uv.flatMap cellsU).drop (i * 5)).take 5 = cellsU uv[i] := by
    refine List.ext_getElem? fun j => ?_
    rw [List.getElem?_take]
    split
    · rename_i hj
      rw [List.getElem?_drop, cellsU_at (x := uv[i]) (by simp [hi]) hj]
    · rename_i hj
      rw [List.getElem?_eq_none (by simp [cellsU]; omega)]
  rcases h2 with ⟨e, _⟩ | ⟨b, o, c, k, rfl, hlt, hk, hlv, ha, hol, hcc⟩
  · omega
  · have hle : o + i * 5 + 5 ≤ k.cells.length := by omega
    have hd : ((k.cells.drop (o + i * 5)).take 5) = cellsU uv[i] := by
      rw [← hc, ← hcc]
      refine List.ext_getElem? fun j => ?_
      simp only [List.getElem?_take, List.getElem?_drop]
      split
      · rw [if_pos (by omega)]; congr 1; omega
      · rfl
    simp only [aload, eltA, hk, hlv, if_true, underlying36, isAggD, asz36, hle, hd]
    rfl
theorem units_get {uv : List (U × Value)} {us : List U} (h : uv.map (·.1) = us) {i : Nat} (hi : i < uv.length) : us[i]? = some (uv[i]).1 := by
  rw [← h]; simp [hi]
theorem unitsL_ok {line : List Int} {tab : Int} : UOk line.length (unitsL line tab) (unitsTo line (tabZ tab) line.length).2 := unitsTo_ok (tabZ_range tab) line.length
theorem unit_bounds {line : List Int} {tab : Int} (hlen : line.length ≤ 10000) {u : U} (hu : u ∈ unitsL line tab) : 0 ≤ u.fr ∧ u.fr < u.to ∧ u.to ≤ line.length ∧ 0 ≤ u.col ∧ 1 ≤ u.wd ∧ u.wd ≤ 64 ∧ u.col + u.wd ≤ 640000 := by
  have h1 := (unitsL_ok (line := line) (tab := tab)).each u hu
  have h2 := (unitsL_ok (line := line) (tab := tab)).col1
  omega
theorem drop_at {us : List U} {j : Nat} {u : U} (h : us[j]? = some u) : us.drop j = u :: us.drop (j + 1) := by
  obtain ⟨hj, e⟩ := List.getElem?_eq_some_iff.1 h
  rw [List.drop_eq_getElem_cons hj, e]
theorem col_ok {a : Value} {line : List Int} {tab i : Int} {h : Heap} (ha : RdI prog h .i32 a line) (G : Gl h) (hline : ∀ j, isR (line.getD j 0)) (hlen : line.length ≤ 10000) :
    ACalls prog 16 #[a, .int .i64 tab, .int .i64 i] h (fun v h' => v = .tuple #[.int .i64 (colOf (unitsL line tab) i 0).1, .int .i64 (colOf (unitsL line tab) i 0).2] ∧ Keeps h h') := by
  refine acalls_of_W' func16 rfl (by kernel_rfl) (by kernel_rfl) (by simp [ntmps16]) ?_
  intro H
  simp only [wk, wt, wl, ↓reduceIte, Nat.reduceEqDiff, Nat.reduceAdd, Nat.zero_add, not_false_eq_true, not_true_eq_false]
  refine (units_ok ha G hline hlen).use ?_
  rintro l h2 ⟨uv, hu, UR2, K2⟩
  simp only [wk, wt, wl, ↓reduceIte, Nat.reduceEqDiff, Nat.reduceAdd, Nat.zero_add, not_false_eq_true, not_true_eq_false, Rd.len UR2.rd underlying33]
  refine W_loop (fun tm h' => Keeps h h' ∧ tm 2 = .int .i64 i ∧ tm 13 = l ∧ tm 14 = .int .i64 uv.length ∧ UR h' l uv ∧ ∃ (j : Nat) (e : Int), tm 15 = .int .i64 j ∧ j ≤ uv.length ∧ tm 8 = .int .i64 e ∧ colOf ((unitsL line tab).drop j) i e = colOf (unitsL line tab) i 0)
    (fun tm _ => (uv.length - intOf (tm 15)).toNat) ⟨K2, (by first | rfl | (simp only [wk, wt, wl, ↓reduceIte, Nat.reduceEqDiff, Nat.reduceAdd, Nat.zero_add, not_false_eq_true, not_true_eq_false]; done) | (simp only [wk, wt, wl, ↓reduceIte, Nat.reduceEqDiff, Nat.reduceAdd, Nat.zero_add, not_false_eq_true, not_true_eq_false]; rfl)), (by first | rfl | (simp only [wk, wt, wl, ↓reduceIte, Nat.reduceEqDiff, Nat.reduceAdd, Nat.zero_add, not_false_eq_true, not_true_eq_false]; done) | (simp only [wk, wt, wl, ↓reduceIte, Nat.reduceEqDiff, Nat.reduceAdd, Nat.zero_add, not_false_eq_true, not_true_eq_false]; rfl)), (by first | rfl | (simp only [wk, wt, wl, ↓reduceIte, Nat.reduceEqDiff, Nat.reduceAdd, Nat.zero_add, not_false_eq_true, not_true_eq_false]; done) | (simp only [wk, wt, wl, ↓reduceIte, Nat.reduceEqDiff, Nat.reduceAdd, Nat.zero_add, not_false_eq_true, not_true_eq_false]; rfl)), UR2, 0, 0, (by first | rfl | (simp only [wk, wt, wl, ↓reduceIte, Nat.reduceEqDiff, Nat.reduceAdd, Nat.zero_add, not_false_eq_true, not_true_eq_false]; done) | (simp only [wk, wt, wl, ↓reduceIte, Nat.reduceEqDiff, Nat.reduceAdd, Nat.zero_add, not_false_eq_true, not_true_eq_false]; rfl)), by omega, (by first | rfl | (simp only [wk, wt, wl, ↓reduceIte, Nat.reduceEqDiff, Nat.reduceAdd, Nat.zero_add, not_false_eq_true, not_true_eq_false]; done) | (simp only [wk, wt, wl, ↓reduceIte, Nat.reduceEqDiff, Nat.reduceAdd, Nat.zero_add, not_false_eq_true, not_true_eq_false]; rfl)), rfl⟩ ?_
  clear UR2 K2
  rintro tm h' ⟨K, t2, t13, t14, UR1, j, e, t15, hjl, t8, hcol⟩
  have hul := (unitsL_ok (line := line) (tab := tab)).len
  have hlen' : uv.length = (unitsL line tab).length := by rw [← hu]; simp
  simp only [wk, wt, wl, ↓reduceIte, Nat.reduceEqDiff, Nat.reduceAdd, Nat.zero_add, not_false_eq_true, not_true_eq_false, t13, t14, t15]
  refine condK_dec (fun hd => ?_) (fun hd => ?_)
  · skip
    have hj : j < uv.length := by omega
    have hx := units_get hu hj
    have hb := unit_bounds hlen (List.mem_of_getElem? hx)
    have hone := (UR1.txt _ (List.getElem_mem hj)).one
    have hld := UR1.at hj
    generalize uv[j] = x at hx hb hone hld
    obtain ⟨u, tv⟩ := x
    simp only at hx hb hone hld
    simp (disch := omega) only [wk, wt, wl, ↓reduceIte, Nat.reduceEqDiff, Nat.reduceAdd, Nat.zero_add, not_false_eq_true, not_true_eq_false, t13, t14, t15, t2, Rd.index UR1.rd underlying33 asz36 (q := .i64) (i := (j : Int)) (by omega) (by omega), hld]
    have K3 := Keeps.new (Ch.wf K) 36 [Value.int IntKind.i64 0, Value.int IntKind.i64 0, Value.int IntKind.i64 0, Value.int IntKind.i64 0, Value.slice none 0 0]
    have V3 := Var.new (e := 36) (Ch.wf K) (cs := [Value.int IntKind.i64 0, Value.int IntKind.i64 0, Value.int IntKind.i64 0, Value.int IntKind.i64 0, Value.slice none 0 0])
    obtain ⟨h4, e4, V4, C4, z4⟩ := V3.store (P := prog) (t := 36) (v := .agg #[.int .i64 u.fr, .int .i64 u.to, .int .i64 u.col, .int .i64 u.wd, tv]) (i := 0) (Ch.wf K3) asz36 (by simp [Value.cells]) (by simp [Value.cells, one_int, hone])
    rw [e4]; clear e4
    simp only [Value.cells, over_all (xs := [Value.int IntKind.i64 0, Value.int IntKind.i64 0, Value.int IntKind.i64 0, Value.int IntKind.i64 0, Value.slice none 0 0]) (vs := [.int .i64 u.fr, .int .i64 u.to, .int .i64 u.col, .int .i64 u.wd, tv]) rfl] at V4
    have K14 := K3.step C4 (fun b hb => by omega)
    have K4 := K.trans K14
    have UR4 := UR1.keeps K14
    have W0 := V4.load1 (P := prog) (t := 3) underlying3 rfl (i := 0)
    have W1 := V4.load1 (P := prog) (t := 3) underlying3 rfl (i := 1)
    have W2 := V4.load1 (P := prog) (t := 3) underlying3 rfl (i := 2)
    have W3 := V4.load1 (P := prog) (t := 3) underlying3 rfl (i := 3)
    simp only [List.getElem?_cons_succ, List.getElem?_cons_zero] at W0 W1 W2 W3
    simp (disch := omega) only [wk, wt, wl, ↓reduceIte, Nat.reduceEqDiff, Nat.reduceAdd, Nat.zero_add, not_false_eq_true, not_true_eq_false, t13, t14, t15, t2, W0, W1, W2, W3, IntWalk.i64_in]
    rw [drop_at hx] at hcol
    simp only [colOf] at hcol
    refine condK_dec (fun hc => ?_) (fun hc => ?_)
    · rw [if_pos hc] at hcol
      simp only [wk, wt, wl, ↓reduceIte, Nat.reduceEqDiff, Nat.reduceAdd, Nat.zero_add, not_false_eq_true, not_true_eq_false]
      refine adraw_order [(0, false), (1, false), (2, false), (3, false), (4, false), (5, false)] mixed (by kernel_rfl) (by kernel_rfl) (by kernel_rfl) (by repeat (first | exact PF_retK | refine PF_thenK ?_ | refine PF_blockK ?_)) ?_
      simp (disch := omega) only [wk, wt, wl, ↓reduceIte, Nat.reduceEqDiff, Nat.reduceAdd, Nat.zero_add, not_false_eq_true, not_true_eq_false, W0, W1, W2, W3]
      rw [← hcol]
      exact ⟨rfl, K4⟩
    · rw [if_neg hc] at hcol
      simp (disch := omega) only [wk, wt, wl, ↓reduceIte, Nat.reduceEqDiff, Nat.reduceAdd, Nat.zero_add, not_false_eq_true, not_true_eq_false, t13, t14, t15, t2, W0, W1, W2, W3, IntWalk.i64_in, intOf_int]
      exact ⟨⟨K4, UR4, j + 1, u.col + u.wd, by simp, by omega, rfl, hcol⟩, by omega⟩
  · simp only [wk, wt, wl, ↓reduceIte, Nat.reduceEqDiff, Nat.reduceAdd, Nat.zero_add, not_false_eq_true, not_true_eq_false, t8]
    rw [List.drop_of_length_le (by omega)] at hcol
    rw [← hcol]
    exact ⟨rfl, K⟩
theorem at_ok {a : Value} {line : List Int} {tab i : Int} {h : Heap} (ha : RdI prog h .i32 a line) (G : Gl h) (hline : ∀ j, isR (line.getD j 0)) (hlen : line.length ≤ 10000) :
    ACalls prog 18 #[a, .int .i64 tab, .int .i64 i] h (fun v h' => v = .int .i64 (atOf (unitsL line tab) i line.length) ∧ Keeps h h') := by
  refine acalls_of_W' func18 rfl (by kernel_rfl) (by kernel_rfl) (by simp [ntmps18]) ?_
  intro H
  simp only [wk, wt, wl, ↓reduceIte, Nat.reduceEqDiff, Nat.reduceAdd, Nat.zero_add, not_false_eq_true, not_true_eq_false]
  refine (units_ok ha G hline hlen).use ?_
  rintro l h2 ⟨uv, hu, UR2, K2⟩
  simp only [wk, wt, wl, ↓reduceIte, Nat.reduceEqDiff, Nat.reduceAdd, Nat.zero_add, not_false_eq_true, not_true_eq_false, Rd.len UR2.rd underlying33]
  refine W_loop (fun tm h' => Keeps h h' ∧ tm 0 = a ∧ tm 2 = .int .i64 i ∧ tm 11 = l ∧ tm 12 = .int .i64 uv.length ∧ UR h' l uv ∧ ∃ (j : Nat), tm 13 = .int .i64 j ∧ j ≤ uv.length ∧ atOf ((unitsL line tab).drop j) i line.length = atOf (unitsL line tab) i line.length)
    (fun tm _ => (uv.length - intOf (tm 13)).toNat) ⟨K2, (by first | rfl | (simp only [wk, wt, wl, ↓reduceIte, Nat.reduceEqDiff, Nat.reduceAdd, Nat.zero_add, not_false_eq_true, not_true_eq_false]; done) | (simp only [wk, wt, wl, ↓reduceIte, Nat.reduceEqDiff, Nat.reduceAdd, Nat.zero_add, not_false_eq_true, not_true_eq_false]; rfl)), (by first | rfl | (simp only [wk, wt, wl, ↓reduceIte, Nat.reduceEqDiff, Nat.reduceAdd, Nat.zero_add, not_false_eq_true, not_true_eq_false]; done) | (simp only [wk, wt, wl, ↓reduceIte, Nat.reduceEqDiff, Nat.reduceAdd, Nat.zero_add, not_false_eq_true, not_true_eq_false]; rfl)), (by first | rfl | (simp only [wk, wt, wl, ↓reduceIte, Nat.reduceEqDiff, Nat.reduceAdd, Nat.zero_add, not_false_eq_true, not_true_eq_false]; done) | (simp only [wk, wt, wl, ↓reduceIte, Nat.reduceEqDiff, Nat.reduceAdd, Nat.zero_add, not_false_eq_true, not_true_eq_false]; rfl)), (by first | rfl | (simp only [wk, wt, wl, ↓reduceIte, Nat.reduceEqDiff, Nat.reduceAdd, Nat.zero_add, not_false_eq_true, not_true_eq_false]; done) | (simp only [wk, wt, wl, ↓reduceIte, Nat.reduceEqDiff, Nat.reduceAdd, Nat.zero_add, not_false_eq_true, not_true_eq_false]; rfl)), UR2, 0, (by first | rfl | (simp only [wk, wt, wl, ↓reduceIte, Nat.reduceEqDiff, Nat.reduceAdd, Nat.zero_add, not_false_eq_true, not_true_eq_false]; done) | (simp only [wk, wt, wl, ↓reduceIte, Nat.reduceEqDiff, Nat.reduceAdd, Nat.zero_add, not_false_eq_true, not_true_eq_false]; rfl)), by omega, rfl⟩ ?_
  clear UR2 K2
  rintro tm h' ⟨K, t0, t2, t13, t14, UR1, j, t15, hjl, hcol⟩
  have hul := (unitsL_ok (line := line) (tab := tab)).len
  have hlen' : uv.length = (unitsL line tab).length := by rw [← hu]; simp
  simp only [wk, wt, wl, ↓reduceIte, Nat.reduceEqDiff, Nat.reduceAdd, Nat.zero_add, not_false_eq_true, not_true_eq_false, t13, t14, t15]
  refine condK_dec (fun hd => ?_) (fun hd => ?_)
  · skip
    have hj : j < uv.length := by omega
    have hx := units_get hu hj
    have hb := unit_bounds hlen (List.mem_of_getElem? hx)
    have hone := (UR1.txt _ (List.getElem_mem hj)).one
    have hld := UR1.at hj
    generalize uv[j] = x at hx hb hone hld
    obtain ⟨u, tv⟩ := x
    simp only at hx hb hone hld
    simp (disch := omega) only [wk, wt, wl, ↓reduceIte, Nat.reduceEqDiff, Nat.reduceAdd, Nat.zero_add, not_false_eq_true, not_true_eq_false, t13, t14, t15, t2, Rd.index UR1.rd underlying33 asz36 (q := .i64) (i := (j : Int)) (by omega) (by omega), hld]
    have K3 := Keeps.new (Ch.wf K) 36 [Value.int IntKind.i64 0, Value.int IntKind.i64 0, Value.int IntKind.i64 0, Value.int IntKind.i64 0, Value.slice none 0 0]
    have V3 := Var.new (e := 36) (Ch.wf K) (cs := [Value.int IntKind.i64 0, Value.int IntKind.i64 0, Value.int IntKind.i64 0, Value.int IntKind.i64 0, Value.slice none 0 0])
    obtain ⟨h4, e4, V4, C4, z4⟩ := V3.store (P := prog) (t := 36) (v := .agg #[.int .i64 u.fr, .int .i64 u.to, .int .i64 u.col, .int .i64 u.wd, tv]) (i := 0) (Ch.wf K3) asz36 (by simp [Value.cells]) (by simp [Value.cells, one_int, hone])
    rw [e4]; clear e4
    simp only [Value.cells, over_all (xs := [Value.int IntKind.i64 0, Value.int IntKind.i64 0, Value.int IntKind.i64 0, Value.int IntKind.i64 0, Value.slice none 0 0]) (vs := [.int .i64 u.fr, .int .i64 u.to, .int .i64 u.col, .int .i64 u.wd, tv]) rfl] at V4
    have K14 := K3.step C4 (fun b hb => by omega)
    have K4 := K.trans K14
    have UR4 := UR1.keeps K14
    have W0 := V4.load1 (P := prog) (t := 3) underlying3 rfl (i := 0)
    have W1 := V4.load1 (P := prog) (t := 3) underlying3 rfl (i := 1)
    have W2 := V4.load1 (P := prog) (t := 3) underlying3 rfl (i := 2)
    have W3 := V4.load1 (P := prog) (t := 3) underlying3 rfl (i := 3)
    simp only [List.getElem?_cons_succ, List.getElem?_cons_zero] at W0 W1 W2 W3
    simp (disch := omega) only [wk, wt, wl, ↓reduceIte, Nat.reduceEqDiff, Nat.reduceAdd, Nat.zero_add, not_false_eq_true, not_true_eq_false, t13, t14, t15, t2, W0, W1, W2, W3, IntWalk.i64_in]
    rw [drop_at hx] at hcol
    simp only [atOf] at hcol
    refine condK_dec (fun hc => ?_) (fun hc => ?_)
    · rw [if_pos hc] at hcol
      simp (disch := omega) only [wk, wt, wl, ↓reduceIte, Nat.reduceEqDiff, Nat.reduceAdd, Nat.zero_add, not_false_eq_true, not_true_eq_false, W0, W1, W2, W3]
      rw [← hcol]
      exact ⟨rfl, K4⟩
    · rw [if_neg hc] at hcol
      simp (disch := omega) only [wk, wt, wl, ↓reduceIte, Nat.reduceEqDiff, Nat.reduceAdd, Nat.zero_add, not_false_eq_true, not_true_eq_false, t0, t13, t14, t15, t2, W0, W1, W2, W3, IntWalk.i64_in, intOf_int]
      exact ⟨⟨K4, UR4, j + 1, by simp, by omega, hcol⟩, by omega⟩
  · simp only [wk, wt, wl, ↓reduceIte, Nat.reduceEqDiff, Nat.reduceAdd, Nat.zero_add, not_false_eq_true, not_true_eq_false, t0, RdI.len (ha.keeps K) underlying24]
    rw [List.drop_of_length_le (by omega)] at hcol
    rw [← hcol]
    exact ⟨rfl, K⟩
theorem columns_ok {a : Value} {line : List Int} {tab : Int} {h : Heap} (ha : RdI prog h .i32 a line) (G : Gl h) (hline : ∀ j, isR (line.getD j 0)) (hlen : line.length ≤ 10000) :
    ACalls prog 23 #[a, .int .i64 tab] h (fun v h' => v = .int .i64 (colOf (unitsL line tab) line.length 0).1 ∧ Keeps h h') := by
  refine acalls_of_W func23 rfl (by kernel_rfl) (by kernel_rfl) (by simp [ntmps23]) ?_
  simp only [wk, wt, wl, ↓reduceIte, Nat.reduceEqDiff, Nat.reduceAdd, Nat.zero_add, not_false_eq_true, not_true_eq_false, RdI.len ha underlying24]
  refine (col_ok ha G hline hlen).use ?_
  rintro _ h2 ⟨rfl, K2⟩
  simp only [wk, wt, wl, ↓reduceIte, Nat.reduceEqDiff, Nat.reduceAdd, Nat.zero_add, not_false_eq_true, not_true_eq_false]
  exact K2
end Go.Proofs.YtcnjmmffipjadaaDoor.Am
