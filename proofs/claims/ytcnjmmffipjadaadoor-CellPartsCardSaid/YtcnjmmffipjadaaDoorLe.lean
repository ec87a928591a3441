/- A statement of the second chapter, told of abstract memory: CellParts answers true. -/
import Derived.Test.YtcnjmmffipjadaaDoorLc
import Derived.Test.YtcnjmmffipjadaaDoorLb
set_option linter.unusedSimpArgs false
set_option linter.unusedVariables false
set_option maxHeartbeats 4000000
set_option maxRecDepth 20000
namespace Go.Proofs.YtcnjmmffipjadaaDoor.Am
open Go Go.RowKit Go.Proofs.Tryd
/-- Where a unit begins: behind those ahead of it. -/
theorem Chain.begin {a c e f : Int} {us : List U} (H : Chain a c us e f) : ∀ {j : Nat} {u : U}, us[j]? = some u → u.fr = (match j with | 0 => a | k + 1 => (us.getD k u).to) ∧ u.col = (match j with | 0 => c | k + 1 => (us.getD k u).col + (us.getD k u).wd) ∧ u.fr < u.to ∧ 1 ≤ u.wd ∧ u.to - u.fr ≤ 3 := by
  induction H with
  | nil => intro j u h; simp at h
  | @cons a c b d v us h1 h2 h3 h4 h5 h ih =>
    intro j u hj
    cases j with
    | zero => simp at hj; subst hj; exact ⟨h1, h3, h2, h4, h5⟩
    | succ j =>
      simp only [List.getElem?_cons_succ] at hj
      obtain ⟨g1, g2, g3⟩ := ih hj
      cases j with
      | zero => exact ⟨g1, g2, g3⟩
      | succ k => exact ⟨g1, g2, g3⟩
def atTo (us : List U) : Nat → Int
  | 0 => 0
  | k + 1 => match us[k]? with | some u => u.to | none => 0
def atCol (us : List U) : Nat → Int
  | 0 => 0
  | k + 1 => match us[k]? with | some u => u.col + u.wd | none => 0
theorem unitsL_begin {line : List Int} {tab : Int} {j : Nat} {u : U} (hj : (unitsL line tab)[j]? = some u) : u.fr = atTo (unitsL line tab) j ∧ u.col = atCol (unitsL line tab) j ∧ u.fr < u.to ∧ 1 ≤ u.wd ∧ u.to - u.fr ≤ 3 := by
  obtain ⟨w, H, _⟩ := unitsL_chain (line := line) (tab := tab)
  obtain ⟨g1, g2, g3⟩ := H.begin hj
  have hlt := (List.getElem?_eq_some_iff.1 hj).1
  cases j with
  | zero => exact ⟨g1, g2, g3⟩
  | succ k =>
    have hk : (unitsL line tab)[k]? = some ((unitsL line tab)[k]'(by omega)) := List.getElem?_eq_getElem _
    simp only [List.getD_eq_getElem?_getD, hk, Option.getD_some] at g1 g2
    simp only [atTo, atCol, hk]
    exact ⟨g1, g2, g3⟩
theorem unitsL_ends {line : List Int} {tab : Int} : atTo (unitsL line tab) (unitsL line tab).length = line.length ∧ atCol (unitsL line tab) (unitsL line tab).length = endOf (unitsL line tab) 0 := by
  obtain ⟨w, H, e⟩ := unitsL_chain (line := line) (tab := tab)
  rw [← e]
  revert H
  generalize unitsL line tab = us
  intro H
  rcases List.eq_nil_or_concat us with rfl | ⟨pre, u, rfl⟩
  · have : ∀ {a c e f : Int}, Chain a c [] e f → a = e ∧ c = f := fun H => by cases H; exact ⟨rfl, rfl⟩
    exact this H
  · rw [List.concat_eq_append] at H ⊢
    have := H.last
    simp [atTo, atCol, this]
theorem wsum_take {l : List Int} : ∀ {k : Nat}, k < l.length → wsum (l.take (k + 1)) = wsum (l.take k) + widthZ (l.getD k 0) := by
  induction l with
  | nil => intro k h; simp at h
  | cons r l ih =>
    intro k h
    cases k with
    | zero => simp [wsum]
    | succ k =>
      have := ih (k := k) (by simpa using h)
      simp only [List.take_succ_cons, wsum, this, List.getD_cons_succ]; omega
theorem wsum_range {l : List Int} : 0 ≤ wsum l ∧ wsum l ≤ 2 * l.length := by
  induction l with
  | nil => simp [wsum]
  | cons r l ih =>
    have := widthZ_range r
    simp only [wsum, List.length_cons]; omega
theorem shown_isR {r : Int} (h : shownB r = true) : isR r := by
  simp only [shownB, validB, Bool.and_eq_true, decide_eq_true_eq] at h
  unfold isR; omega
theorem cellParts_law {a : Value} {line : List Int} {tab : Int} {h : Heap} (ha : RdI prog h .i32 a line) (G : Gl h) (hline : ∀ j, isR (line.getD j 0)) :
    ACalls prog 8 #[a, .int .i64 tab] h (fun v h' => v = .bool true ∧ Keeps h h') := by
  refine acalls_of_W' func8 rfl (by kernel_rfl) (by kernel_rfl) (by simp [ntmps8]) ?_
  intro H
  simp only [wk, wt, wl, ↓reduceIte, Nat.reduceEqDiff, Nat.reduceAdd, Nat.zero_add, not_false_eq_true, not_true_eq_false, RdI.len ha underlying24]
  refine condK_dec (fun hc => ?_) (fun hc => ?_)
  · simp only [wk, wt, wl, ↓reduceIte, Nat.reduceEqDiff, Nat.reduceAdd, Nat.zero_add, not_false_eq_true, not_true_eq_false]
    exact Keeps.refl H
  have hlen : line.length ≤ 10000 := by omega
  simp only [wk, wt, wl, ↓reduceIte, Nat.reduceEqDiff, Nat.reduceAdd, Nat.zero_add, not_false_eq_true, not_true_eq_false]
  refine (units_ok ha G hline hlen).use ?_
  rintro l h2 ⟨uv, hu, R2, K2⟩
  have hlen' : uv.length = (unitsL line tab).length := by rw [← hu]; simp
  have hul := (unitsL_ok (line := line) (tab := tab)).len
  simp only [wk, wt, wl, ↓reduceIte, Nat.reduceEqDiff, Nat.reduceAdd, Nat.zero_add, not_false_eq_true, not_true_eq_false]
  refine W_loop (fun tm h' => Keeps h h' ∧ UR h' l uv ∧ tm 0 = a ∧ tm 1 = .int .i64 tab ∧ tm 5 = l ∧ ∃ j : Nat, tm 8 = .int .i64 j ∧ j ≤ uv.length ∧ tm 6 = .int .i64 (atTo (unitsL line tab) j) ∧ tm 7 = .int .i64 (atCol (unitsL line tab) j)) (fun tm _ => (uv.length - intOf (tm 8)).toNat) ⟨K2, R2, (by first | rfl | (simp only [wk, wt, wl, ↓reduceIte, Nat.reduceEqDiff, Nat.reduceAdd, Nat.zero_add, not_false_eq_true, not_true_eq_false]; done) | (simp only [wk, wt, wl, ↓reduceIte, Nat.reduceEqDiff, Nat.reduceAdd, Nat.zero_add, not_false_eq_true, not_true_eq_false]; rfl)), (by first | rfl | (simp only [wk, wt, wl, ↓reduceIte, Nat.reduceEqDiff, Nat.reduceAdd, Nat.zero_add, not_false_eq_true, not_true_eq_false]; done) | (simp only [wk, wt, wl, ↓reduceIte, Nat.reduceEqDiff, Nat.reduceAdd, Nat.zero_add, not_false_eq_true, not_true_eq_false]; rfl)), (by first | rfl | (simp only [wk, wt, wl, ↓reduceIte, Nat.reduceEqDiff, Nat.reduceAdd, Nat.zero_add, not_false_eq_true, not_true_eq_false]; done) | (simp only [wk, wt, wl, ↓reduceIte, Nat.reduceEqDiff, Nat.reduceAdd, Nat.zero_add, not_false_eq_true, not_true_eq_false]; rfl)), 0, (by first | rfl | (simp only [wk, wt, wl, ↓reduceIte, Nat.reduceEqDiff, Nat.reduceAdd, Nat.zero_add, not_false_eq_true, not_true_eq_false]; done) | (simp only [wk, wt, wl, ↓reduceIte, Nat.reduceEqDiff, Nat.reduceAdd, Nat.zero_add, not_false_eq_true, not_true_eq_false]; rfl)), by omega, (by first | rfl | (simp only [wk, wt, wl, ↓reduceIte, Nat.reduceEqDiff, Nat.reduceAdd, Nat.zero_add, not_false_eq_true, not_true_eq_false]; done) | (simp only [wk, wt, wl, ↓reduceIte, Nat.reduceEqDiff, Nat.reduceAdd, Nat.zero_add, not_false_eq_true, not_true_eq_false]; rfl)), (by first | rfl | (simp only [wk, wt, wl, ↓reduceIte, Nat.reduceEqDiff, Nat.reduceAdd, Nat.zero_add, not_false_eq_true, not_true_eq_false]; done) | (simp only [wk, wt, wl, ↓reduceIte, Nat.reduceEqDiff, Nat.reduceAdd, Nat.zero_add, not_false_eq_true, not_true_eq_false]; rfl))⟩ ?_
  clear R2 K2
  rintro tm h' ⟨K, UR1, t0, t1, t5, j, t8, hj, t6, t7⟩
  simp only [wk, wt, wl, ↓reduceIte, Nat.reduceEqDiff, Nat.reduceAdd, Nat.zero_add, not_false_eq_true, not_true_eq_false, t0, t1, t5, t6, t7, t8, Rd.len UR1.rd underlying33]
  refine condK_dec (fun hd => ?_) (fun hd => ?_)
  · have hj : j < uv.length := by omega
    have hx := units_get hu hj
    have hb := unit_bounds hlen (List.mem_of_getElem? hx)
    have htl := unit_text hlen (List.mem_of_getElem? hx)
    have hsh := unitsL_shown _ (List.mem_of_getElem? hx)
    have hbg := unitsL_begin hx
    have htx := UR1.txt _ (List.getElem_mem hj)
    have hone := htx.one
    have hld := UR1.at hj
    have hnx : atTo (unitsL line tab) (j + 1) = (uv[j]).1.to ∧ atCol (unitsL line tab) (j + 1) = (uv[j]).1.col + (uv[j]).1.wd := by simp [atTo, atCol, hx]
    generalize uv[j] = x at hx hb htl hsh hbg htx hone hld hnx
    obtain ⟨u, tv⟩ := x
    simp only at hx hb htl hsh hbg htx hone hld hnx
    simp (disch := omega) only [wk, wt, wl, ↓reduceIte, Nat.reduceEqDiff, Nat.reduceAdd, Nat.zero_add, not_false_eq_true, not_true_eq_false, t0, t1, t5, t6, t7, t8, Rd.index UR1.rd underlying33 asz36 (q := .i64) (i := (j : Int)) (by omega) (by omega), hld]
    have K3 := Keeps.new (Ch.wf K) 36 [Value.int IntKind.i64 0, Value.int IntKind.i64 0, Value.int IntKind.i64 0, Value.int IntKind.i64 0, Value.slice none 0 0]
    have V3 := Var.new (e := 36) (Ch.wf K) (cs := [Value.int IntKind.i64 0, Value.int IntKind.i64 0, Value.int IntKind.i64 0, Value.int IntKind.i64 0, Value.slice none 0 0])
    obtain ⟨h4, e4, V4, C4, z4⟩ := V3.store (P := prog) (t := 36) (v := .agg #[.int .i64 u.fr, .int .i64 u.to, .int .i64 u.col, .int .i64 u.wd, tv]) (i := 0) (Ch.wf K3) asz36 (by simp [Value.cells]) (by simp [Value.cells, one_int, hone])
    rw [e4]; clear e4
    simp only [Value.cells, over_all (xs := [Value.int IntKind.i64 0, Value.int IntKind.i64 0, Value.int IntKind.i64 0, Value.int IntKind.i64 0, Value.slice none 0 0]) (vs := [.int .i64 u.fr, .int .i64 u.to, .int .i64 u.col, .int .i64 u.wd, tv]) rfl] at V4
    have K14 := K3.step C4 (fun b hb => by omega)
    have K4 := K.trans K14
    have UR4 := UR1.keeps K14
    have W0 := V4.load1 (P := prog) (t := 3) underlying3 rfl (i := 0)
    have W1 := V4.load1 (P := prog) (t := 3) underlying3 rfl (i := 1)
    have W2 := V4.load1 (P := prog) (t := 3) underlying3 rfl (i := 2)
    have W3 := V4.load1 (P := prog) (t := 3) underlying3 rfl (i := 3)
    have W4 := V4.load1 (P := prog) (t := 24) underlying24 rfl (i := 4)
    simp only [List.getElem?_cons_succ, List.getElem?_cons_zero] at W0 W1 W2 W3 W4
    obtain ⟨g1, g2, g3, g4, g5⟩ := hbg
    have d1 : decide (u.to ≤ atTo (unitsL line tab) j) = false := decide_eq_false (by omega)
    have d2 : decide (u.wd < 1) = false := decide_eq_false (by omega)
    have d3 : decide (3 < u.to - u.fr) = false := decide_eq_false (by omega)
    rw [← g1] at d1
    have htx4 := htx.keeps K14
    rw [← g1] at t6
    rw [← g2] at t7
    simp (disch := omega) only [wk, wt, wl, ↓reduceIte, Nat.reduceEqDiff, Nat.reduceAdd, Nat.zero_add, not_false_eq_true, not_true_eq_false, t0, t1, t5, t6, t7, t8, W0, W1, W2, W3, IntWalk.i64_in, not_true_eq_false, decide_false, d1, d2, d3]
    refine W_loop (fun tm hh => hh = h4 ∧ tm 0 = a ∧ tm 1 = .int .i64 tab ∧ tm 5 = l ∧ tm 6 = .int .i64 u.fr ∧ tm 7 = .int .i64 u.col ∧ tm 8 = .int .i64 j ∧ tm 9 = .pointer (some ⟨h'.size, 0, none⟩) ∧ ∃ k : Nat, tm 11 = .int .i64 k ∧ k ≤ u.tx.length ∧ tm 10 = .int .i64 (wsum (u.tx.take k))) (fun tm _ => (u.tx.length - intOf (tm 11)).toNat) ⟨rfl, (by first | rfl | (simp only [wk, wt, wl, ↓reduceIte, Nat.reduceEqDiff, Nat.reduceAdd, Nat.zero_add, not_false_eq_true, not_true_eq_false]; done) | (simp only [wk, wt, wl, ↓reduceIte, Nat.reduceEqDiff, Nat.reduceAdd, Nat.zero_add, not_false_eq_true, not_true_eq_false]; rfl) | (simp only [wk, wt, wl, ↓reduceIte, Nat.reduceEqDiff, Nat.reduceAdd, Nat.zero_add, not_false_eq_true, not_true_eq_false, t0]; done) | (simp only [wk, wt, wl, ↓reduceIte, Nat.reduceEqDiff, Nat.reduceAdd, Nat.zero_add, not_false_eq_true, not_true_eq_false, t0]; rfl)), (by first | rfl | (simp only [wk, wt, wl, ↓reduceIte, Nat.reduceEqDiff, Nat.reduceAdd, Nat.zero_add, not_false_eq_true, not_true_eq_false]; done) | (simp only [wk, wt, wl, ↓reduceIte, Nat.reduceEqDiff, Nat.reduceAdd, Nat.zero_add, not_false_eq_true, not_true_eq_false]; rfl) | (simp only [wk, wt, wl, ↓reduceIte, Nat.reduceEqDiff, Nat.reduceAdd, Nat.zero_add, not_false_eq_true, not_true_eq_false, t1]; done) | (simp only [wk, wt, wl, ↓reduceIte, Nat.reduceEqDiff, Nat.reduceAdd, Nat.zero_add, not_false_eq_true, not_true_eq_false, t1]; rfl)), (by first | rfl | (simp only [wk, wt, wl, ↓reduceIte, Nat.reduceEqDiff, Nat.reduceAdd, Nat.zero_add, not_false_eq_true, not_true_eq_false]; done) | (simp only [wk, wt, wl, ↓reduceIte, Nat.reduceEqDiff, Nat.reduceAdd, Nat.zero_add, not_false_eq_true, not_true_eq_false]; rfl) | (simp only [wk, wt, wl, ↓reduceIte, Nat.reduceEqDiff, Nat.reduceAdd, Nat.zero_add, not_false_eq_true, not_true_eq_false, t5]; done) | (simp only [wk, wt, wl, ↓reduceIte, Nat.reduceEqDiff, Nat.reduceAdd, Nat.zero_add, not_false_eq_true, not_true_eq_false, t5]; rfl)), (by first | rfl | (simp only [wk, wt, wl, ↓reduceIte, Nat.reduceEqDiff, Nat.reduceAdd, Nat.zero_add, not_false_eq_true, not_true_eq_false]; done) | (simp only [wk, wt, wl, ↓reduceIte, Nat.reduceEqDiff, Nat.reduceAdd, Nat.zero_add, not_false_eq_true, not_true_eq_false]; rfl) | (simp only [wk, wt, wl, ↓reduceIte, Nat.reduceEqDiff, Nat.reduceAdd, Nat.zero_add, not_false_eq_true, not_true_eq_false, t6]; done) | (simp only [wk, wt, wl, ↓reduceIte, Nat.reduceEqDiff, Nat.reduceAdd, Nat.zero_add, not_false_eq_true, not_true_eq_false, t6]; rfl)), (by first | rfl | (simp only [wk, wt, wl, ↓reduceIte, Nat.reduceEqDiff, Nat.reduceAdd, Nat.zero_add, not_false_eq_true, not_true_eq_false]; done) | (simp only [wk, wt, wl, ↓reduceIte, Nat.reduceEqDiff, Nat.reduceAdd, Nat.zero_add, not_false_eq_true, not_true_eq_false]; rfl) | (simp only [wk, wt, wl, ↓reduceIte, Nat.reduceEqDiff, Nat.reduceAdd, Nat.zero_add, not_false_eq_true, not_true_eq_false, t7]; done) | (simp only [wk, wt, wl, ↓reduceIte, Nat.reduceEqDiff, Nat.reduceAdd, Nat.zero_add, not_false_eq_true, not_true_eq_false, t7]; rfl)), (by first | rfl | (simp only [wk, wt, wl, ↓reduceIte, Nat.reduceEqDiff, Nat.reduceAdd, Nat.zero_add, not_false_eq_true, not_true_eq_false]; done) | (simp only [wk, wt, wl, ↓reduceIte, Nat.reduceEqDiff, Nat.reduceAdd, Nat.zero_add, not_false_eq_true, not_true_eq_false]; rfl) | (simp only [wk, wt, wl, ↓reduceIte, Nat.reduceEqDiff, Nat.reduceAdd, Nat.zero_add, not_false_eq_true, not_true_eq_false, t8]; done) | (simp only [wk, wt, wl, ↓reduceIte, Nat.reduceEqDiff, Nat.reduceAdd, Nat.zero_add, not_false_eq_true, not_true_eq_false, t8]; rfl)), (by first | rfl | (simp only [wk, wt, wl, ↓reduceIte, Nat.reduceEqDiff, Nat.reduceAdd, Nat.zero_add, not_false_eq_true, not_true_eq_false]; done) | (simp only [wk, wt, wl, ↓reduceIte, Nat.reduceEqDiff, Nat.reduceAdd, Nat.zero_add, not_false_eq_true, not_true_eq_false]; rfl)), 0, (by first | rfl | (simp only [wk, wt, wl, ↓reduceIte, Nat.reduceEqDiff, Nat.reduceAdd, Nat.zero_add, not_false_eq_true, not_true_eq_false]; done) | (simp only [wk, wt, wl, ↓reduceIte, Nat.reduceEqDiff, Nat.reduceAdd, Nat.zero_add, not_false_eq_true, not_true_eq_false]; rfl)), by omega, (by first | rfl | (simp only [wk, wt, wl, ↓reduceIte, Nat.reduceEqDiff, Nat.reduceAdd, Nat.zero_add, not_false_eq_true, not_true_eq_false]; done) | (simp only [wk, wt, wl, ↓reduceIte, Nat.reduceEqDiff, Nat.reduceAdd, Nat.zero_add, not_false_eq_true, not_true_eq_false]; rfl))⟩ ?_
    clear t0 t1 t5 t6 t7 t8
    rintro tm h'' ⟨rfl, t0, t1, t5, t6, t7, t8, t9, k, t11, hk, t10⟩
    simp (disch := omega) only [wk, wt, wl, ↓reduceIte, Nat.reduceEqDiff, Nat.reduceAdd, Nat.zero_add, not_false_eq_true, not_true_eq_false, t0, t1, t5, t6, t7, t8, t9, t10, t11, W4, RdI.len htx4 underlying24]
    refine condK_dec (fun hd2 => ?_) (fun hd2 => ?_)
    · have hk1 : k < u.tx.length := by omega
      have LX := RdI.at htx4 (t := 21) underlying21 rfl hk1
      have hs := hsh.1 (u.tx.getD k 0) (by rw [List.getD_eq_getElem?_getD, List.getElem?_eq_getElem hk1]; exact List.getElem_mem _)
      have hw := wsum_take hk1
      have wr1 := wsum_range (l := u.tx.take k)
      have wr2 := wsum_range (l := u.tx.take (k + 1))
      simp only [List.length_take] at wr1 wr2
      generalize u.tx.getD k 0 = x at LX hs hw
      have hr := shown_isR hs
      have hwr := widthZ_range x
      simp (disch := omega) only [wk, wt, wl, ↓reduceIte, Nat.reduceEqDiff, Nat.reduceAdd, Nat.zero_add, not_false_eq_true, not_true_eq_false, t0, t1, t5, t6, t7, t8, t9, t10, t11, W4, RdI.index htx4 underlying24 asz21, Int.toNat_natCast, LX]
      refine (width_ok hr (G.keeps K4)).use_pure ?_
      simp (disch := omega) only [wk, wt, wl, ↓reduceIte, Nat.reduceEqDiff, Nat.reduceAdd, Nat.zero_add, not_false_eq_true, not_true_eq_false, t0, t1, t5, t6, t7, t8, t9, t10, t11, W4, RdI.index htx4 underlying24 asz21, Int.toNat_natCast, LX, IntWalk.i64_in]
      refine (refValid_ok hr).use_pure ?_
      simp only [shownB, Bool.and_eq_true, decide_eq_true_eq] at hs
      obtain ⟨⟨hv, hx1⟩, hx2⟩ := hs
      have d4 : decide (x < 32) = false := decide_eq_false hx1
      rw [← hw]
      by_cases h127 : 127 ≤ x
      · have d5 : decide (x < 127) = false := decide_eq_false (by omega)
        have d5' : decide (127 ≤ x) = true := decide_eq_true h127
        have d6 : decide (x < 160) = false := decide_eq_false (by omega)
        simp (disch := omega) only [wk, wt, wl, ↓reduceIte, Nat.reduceEqDiff, Nat.reduceAdd, Nat.zero_add, not_false_eq_true, not_true_eq_false, t0, t1, t5, t6, t7, t8, t9, t11, W4, RdI.index htx4 underlying24 asz21, Int.toNat_natCast, LX, hv, Bool.not_true, d4, d5, d5', d6, IntWalk.i64_in, intOf_int]
        exact ⟨⟨k + 1, by simp, by omega, rfl⟩, by omega⟩
      · have d5 : decide (x < 127) = true := decide_eq_true (by omega)
        have d5' : decide (127 ≤ x) = false := decide_eq_false h127
        simp (disch := omega) only [wk, wt, wl, ↓reduceIte, Nat.reduceEqDiff, Nat.reduceAdd, Nat.zero_add, not_false_eq_true, not_true_eq_false, t0, t1, t5, t6, t7, t8, t9, t11, W4, RdI.index htx4 underlying24 asz21, Int.toNat_natCast, LX, hv, Bool.not_true, d4, d5, d5', IntWalk.i64_in, intOf_int]
        exact ⟨⟨k + 1, by simp, by omega, rfl⟩, by omega⟩
    · have he : wsum (u.tx.take k) = u.wd := by rw [List.take_of_length_le (by omega)]; exact hsh.2
      rw [he] at t10
      simp (disch := omega) only [wk, wt, wl, ↓reduceIte, Nat.reduceEqDiff, Nat.reduceAdd, Nat.zero_add, not_false_eq_true, not_true_eq_false, t0, t1, t5, t6, t7, t8, t9, t10, W3, not_true_eq_false, decide_false]
      refine adraw_order [(0, false), (1, false), (2, false), (3, false), (4, false), (5, false), (6, false), (7, false)] mixed (by kernel_rfl) (by kernel_rfl) (by kernel_rfl) (by repeat (first | exact PF_retK | refine PF_thenK ?_ | refine PF_blockK ?_)) ?_
      simp (disch := omega) only [wk, wt, wl, ↓reduceIte, Nat.reduceEqDiff, Nat.reduceAdd, Nat.zero_add, not_false_eq_true, not_true_eq_false, t0, t1, t5, t6, t7, t8, t9, t10, W1, W3, IntWalk.i64_in, intOf_int]
      exact ⟨⟨K4, UR4, j + 1, by simp, by omega, by rw [hnx.1], by rw [hnx.2]⟩, by omega⟩
  · have hje : j = (unitsL line tab).length := by omega
    rw [hje, unitsL_ends.1] at t6
    rw [hje, unitsL_ends.2] at t7
    simp only [wk, wt, wl, ↓reduceIte, Nat.reduceEqDiff, Nat.reduceAdd, Nat.zero_add, not_false_eq_true, not_true_eq_false, t0, t1, t5, t6, t7, RdI.len (ha.keeps K) underlying24, decide_true]
    refine (columns_ok (ha.keeps K) (G.keeps K) hline hlen).use ?_
    rintro _ h3 ⟨rfl, K3⟩
    rw [colOf_all]
    simp only [wk, wt, wl, ↓reduceIte, Nat.reduceEqDiff, Nat.reduceAdd, Nat.zero_add, not_false_eq_true, not_true_eq_false, decide_true]
    refine (awake_ok (G.keeps (K.trans K3))).use ?_
    rintro _ h5 ⟨rfl, K5⟩
    simp only [wk, wt, wl, ↓reduceIte, Nat.reduceEqDiff, Nat.reduceAdd, Nat.zero_add, not_false_eq_true, not_true_eq_false]
    exact (K.trans K3).trans K5
end Go.Proofs.YtcnjmmffipjadaaDoor.Am
