/- The texts of this seat, one behind another (part 2 of 10): the frame (an abstract machine), the contracts of functions, the laws. -/
import Derived.Test.YtgfccaaalkkdlaaAmRecs
import Derived.Test.YtgfccaaalkkdlaaAmF
section
/- Folds: which are right, which a line is in: contracts of fold.Right, find, at, shown, of the document's Right, in, shut and of the law's near, by walks. -/
set_option linter.unusedSimpArgs false
set_option linter.unusedVariables false
set_option maxHeartbeats 2000000
namespace Go.Proofs.Ytgfccaaalkkdlaa.Am
open Go Go.RowKit Go.Proofs.Try
def intOf : Value → Int
  | .int _ x => x
  | _ => 0
theorem intOf_int {k : IntKind} {x : Int} : intOf (.int k x) = x := rfl
structure F where
  fr : Int
  to : Int
  cl : Bool
def cF (x : F) : List Value := [.int .i64 x.fr, .int .i64 x.to, .bool x.cl]
theorem cF_len : ∀ x, (cF x).length = 3 := fun _ => rfl
abbrev FR (h : Heap) (v : Value) (l : List F) : Prop := RS prog h 3 cF v l
def rightGo : Int → List F → Bool
  | _, [] => true
  | e, f :: l => if f.fr ≤ e ∨ f.to ≤ f.fr then false else rightGo f.to l
def rightB (l : List F) : Bool := rightGo (-1) l && decide (l.length ≤ 64)
theorem dropAt {α : Type} {us : List α} {j : Nat} {u : α} (h : us[j]? = some u) : us.drop j = u :: us.drop (j + 1) := by
  obtain ⟨hj, e⟩ := List.getElem?_eq_some_iff.1 h
  rw [List.drop_eq_getElem_cons hj, e]
theorem FR.flds {h : Heap} {v : Value} {l : List F} (R : FR h v l) {i : Nat} {x : F} (hx : l[i]? = some x) :
    aload prog h 3 ⟨(eltA v 3 i).block, (eltA v 3 i).off + 0, none⟩ = some (.int .i64 x.fr) ∧ aload prog h 3 ⟨(eltA v 3 i).block, (eltA v 3 i).off + 1, none⟩ = some (.int .i64 x.to) ∧ aload prog h 4 ⟨(eltA v 3 i).block, (eltA v 3 i).off + 2, none⟩ = some (.bool x.cl) ∧
    aload prog h 36 (eltA v 3 i) = some (.agg #[.int .i64 x.fr, .int .i64 x.to, .bool x.cl]) :=
  ⟨R.fld cF_len underlying3 rfl hx (by decide), R.fld cF_len underlying3 rfl hx (by decide), R.fld cF_len underlying4 rfl hx (by decide), R.agg cF_len underlying36 rfl asz36 hx⟩
theorem refRight_ok {v : Value} {l : List F} {h : Heap} (R : FR h v l) (hl : l.length ≤ 9223372036854775807) : ACalls prog 22 #[v] h (fun x h' => x = .bool (rightB l) ∧ h' = h) := by
  refine acalls_of_W func22 rfl (by kernel_rfl) (by kernel_rfl) (by simp [ntmps22]) ?_
  simp only [wk, wt, wl, ↓reduceIte, Nat.reduceEqDiff, Nat.reduceAdd, Nat.zero_add, not_false_eq_true, not_true_eq_false]
  refine W_loop (fun tm h' => h' = h ∧ tm 0 = v ∧ ∃ (i : Nat) (e : Int), tm 4 = .int .i64 i ∧ tm 3 = .int .i64 e ∧ i ≤ l.length ∧ rightGo (-1) l = rightGo e (l.drop i)) (fun tm _ => (l.length - intOf (tm 4)).toNat) ⟨rfl, (by first | rfl | (simp only [wk, wt, wl, ↓reduceIte, Nat.reduceEqDiff, Nat.reduceAdd, Nat.zero_add, not_false_eq_true, not_true_eq_false]; done) | (simp only [wk, wt, wl, ↓reduceIte, Nat.reduceEqDiff, Nat.reduceAdd, Nat.zero_add, not_false_eq_true, not_true_eq_false]; rfl)), 0, -1, (by first | rfl | (simp only [wk, wt, wl, ↓reduceIte, Nat.reduceEqDiff, Nat.reduceAdd, Nat.zero_add, not_false_eq_true, not_true_eq_false]; done) | (simp only [wk, wt, wl, ↓reduceIte, Nat.reduceEqDiff, Nat.reduceAdd, Nat.zero_add, not_false_eq_true, not_true_eq_false]; rfl)), (by first | rfl | (simp only [wk, wt, wl, ↓reduceIte, Nat.reduceEqDiff, Nat.reduceAdd, Nat.zero_add, not_false_eq_true, not_true_eq_false]; done) | (simp only [wk, wt, wl, ↓reduceIte, Nat.reduceEqDiff, Nat.reduceAdd, Nat.zero_add, not_false_eq_true, not_true_eq_false]; rfl)), by omega, rfl⟩ ?_
  rintro tm h' ⟨rfl, t0, i, e, t4, t3, hi, hg⟩
  simp only [wk, wt, wl, ↓reduceIte, Nat.reduceEqDiff, Nat.reduceAdd, Nat.zero_add, not_false_eq_true, not_true_eq_false, t0, t3, t4, R.len underlying22]
  refine condK_dec (fun hd => ?_) (fun hd => ?_)
  · have hi1 : i < l.length := by omega
    obtain ⟨f, hx⟩ : ∃ f, l[i]? = some f := ⟨l[i], by simp [hi1]⟩
    obtain ⟨F0, F1, F2, F3⟩ := R.flds hx
    have IX := Rd.index R underlying22 asz36 (q := .i64) (i := (i : Int)) (by omega) (by omega)
    simp only [Int.toNat_natCast] at IX
    rw [dropAt hx] at hg
    simp only [rightGo] at hg
    simp only [wk, wt, wl, ↓reduceIte, Nat.reduceEqDiff, Nat.reduceAdd, Nat.zero_add, not_false_eq_true, not_true_eq_false]
    refine adraw_order [(0, false), (1, false), (2, false), (3, false), (4, false), (5, false), (6, false), (7, false), (8, false), (9, false), (10, false), (11, false), (12, false), (13, false), (14, false), (15, false), (16, false), (17, false), (18, false), (19, false)] mixed (by kernel_rfl) (by kernel_rfl) (by kernel_rfl) (by with_reducible repeat (first | exact PF_retK | refine PF_thenK ?_ | refine PF_blockK ?_)) ?_
    by_cases hb : f.fr ≤ e ∨ f.to ≤ f.fr
    · rw [if_pos hb] at hg
      have fin : rightB l = false := by simp [rightB, hg]
      by_cases h1 : f.fr ≤ e
      · have d1 : decide (f.fr ≤ e) = true := decide_eq_true h1
        simp (disch := omega) only [wk, wt, wl, ↓reduceIte, Nat.reduceEqDiff, Nat.reduceAdd, Nat.zero_add, not_false_eq_true, not_true_eq_false, t0, t3, t4, IX, F0, F1, d1]
        rw [fin]; exact ⟨rfl, trivial⟩
      · have d1 : decide (f.fr ≤ e) = false := decide_eq_false h1
        have d2 : decide (f.to ≤ f.fr) = true := decide_eq_true (by omega)
        simp (disch := omega) only [wk, wt, wl, ↓reduceIte, Nat.reduceEqDiff, Nat.reduceAdd, Nat.zero_add, not_false_eq_true, not_true_eq_false, t0, t3, t4, IX, F0, F1, d1, d2]
        rw [fin]; exact ⟨rfl, trivial⟩
    · rw [if_neg hb] at hg
      have d1 : decide (f.fr ≤ e) = false := decide_eq_false (by omega)
      have d2 : decide (f.to ≤ f.fr) = false := decide_eq_false (by omega)
      simp (disch := omega) only [wk, wt, wl, ↓reduceIte, Nat.reduceEqDiff, Nat.reduceAdd, Nat.zero_add, not_false_eq_true, not_true_eq_false, t0, t3, t4, IX, F0, F1, d1, d2, IntWalk.i64_in, intOf_int]
      exact ⟨⟨i + 1, f.to, by simp, rfl, by omega, hg⟩, by omega⟩
  · rw [List.drop_of_length_le (by omega)] at hg
    simp only [wk, wt, wl, ↓reduceIte, Nat.reduceEqDiff, Nat.reduceAdd, Nat.zero_add, not_false_eq_true, not_true_eq_false, t0, R.len underlying22]
    simp only [rightB, hg, rightGo, Bool.true_and]
    refine ⟨?_, trivial⟩
    congr 1
    exact decide_eq_decide.2 (by omega)
theorem right_ok {v : Value} {l : List F} {h : Heap} (R : FR h v l) (hl : l.length ≤ 9223372036854775807) : ACalls prog 21 #[v] h (fun x h' => x = .bool (rightB l) ∧ Keeps h h') := by
  refine acalls_of_W' func21 rfl (by kernel_rfl) (by kernel_rfl) (by simp [ntmps21]) ?_
  intro H
  simp only [wk, wt, wl, ↓reduceIte, Nat.reduceEqDiff, Nat.reduceAdd, Nat.zero_add, not_false_eq_true, not_true_eq_false, R.len underlying22]
  refine W_loop (fun tm h' => Keeps h h' ∧ tm 0 = v ∧ tm 6 = v ∧ tm 7 = .int .i64 l.length ∧ ∃ (i : Nat) (e : Int), tm 8 = .int .i64 i ∧ tm 3 = .int .i64 e ∧ i ≤ l.length ∧ rightGo (-1) l = rightGo e (l.drop i)) (fun tm _ => (l.length - intOf (tm 8)).toNat) ⟨Keeps.refl H, (by first | rfl | (simp only [wk, wt, wl, ↓reduceIte, Nat.reduceEqDiff, Nat.reduceAdd, Nat.zero_add, not_false_eq_true, not_true_eq_false]; done) | (simp only [wk, wt, wl, ↓reduceIte, Nat.reduceEqDiff, Nat.reduceAdd, Nat.zero_add, not_false_eq_true, not_true_eq_false]; rfl)), (by first | rfl | (simp only [wk, wt, wl, ↓reduceIte, Nat.reduceEqDiff, Nat.reduceAdd, Nat.zero_add, not_false_eq_true, not_true_eq_false]; done) | (simp only [wk, wt, wl, ↓reduceIte, Nat.reduceEqDiff, Nat.reduceAdd, Nat.zero_add, not_false_eq_true, not_true_eq_false]; rfl)), (by first | rfl | (simp only [wk, wt, wl, ↓reduceIte, Nat.reduceEqDiff, Nat.reduceAdd, Nat.zero_add, not_false_eq_true, not_true_eq_false]; done) | (simp only [wk, wt, wl, ↓reduceIte, Nat.reduceEqDiff, Nat.reduceAdd, Nat.zero_add, not_false_eq_true, not_true_eq_false]; rfl)), 0, -1, (by first | rfl | (simp only [wk, wt, wl, ↓reduceIte, Nat.reduceEqDiff, Nat.reduceAdd, Nat.zero_add, not_false_eq_true, not_true_eq_false]; done) | (simp only [wk, wt, wl, ↓reduceIte, Nat.reduceEqDiff, Nat.reduceAdd, Nat.zero_add, not_false_eq_true, not_true_eq_false]; rfl)), (by first | rfl | (simp only [wk, wt, wl, ↓reduceIte, Nat.reduceEqDiff, Nat.reduceAdd, Nat.zero_add, not_false_eq_true, not_true_eq_false]; done) | (simp only [wk, wt, wl, ↓reduceIte, Nat.reduceEqDiff, Nat.reduceAdd, Nat.zero_add, not_false_eq_true, not_true_eq_false]; rfl)), by omega, rfl⟩ ?_
  rintro tm h' ⟨K, t0, t6, t7, i, e, t8, t3, hi, hg⟩
  have R' : FR h' v l := R.keeps K
  simp only [wk, wt, wl, ↓reduceIte, Nat.reduceEqDiff, Nat.reduceAdd, Nat.zero_add, not_false_eq_true, not_true_eq_false, t0, t3, t6, t7, t8]
  refine condK_dec (fun hd => ?_) (fun hd => ?_)
  · have hi1 : i < l.length := by omega
    obtain ⟨f, hx⟩ : ∃ f, l[i]? = some f := ⟨l[i], by simp [hi1]⟩
    obtain ⟨F0, F1, F2, F3⟩ := R'.flds hx
    have IX := Rd.index R' underlying22 asz36 (q := .i64) (i := (i : Int)) (by omega) (by omega)
    simp only [Int.toNat_natCast] at IX
    rw [dropAt hx] at hg
    simp only [rightGo] at hg
    simp (disch := omega) only [wk, wt, wl, ↓reduceIte, Nat.reduceEqDiff, Nat.reduceAdd, Nat.zero_add, not_false_eq_true, not_true_eq_false, t0, t3, t6, t7, t8, IX, F3]
    have K3 := Keeps.new (Ch.wf K) 36 [Value.int IntKind.i64 0, Value.int IntKind.i64 0, Value.bool false]
    have V3 := Var.new (e := 36) (Ch.wf K) (cs := [Value.int IntKind.i64 0, Value.int IntKind.i64 0, Value.bool false])
    obtain ⟨h4, e4, V4, C4, z4⟩ := V3.store (P := prog) (t := 36) (v := .agg #[.int .i64 f.fr, .int .i64 f.to, .bool f.cl]) (i := 0) (Ch.wf K3) asz36 (by simp [Value.cells]) (by simp [Value.cells, one])
    rw [e4]; clear e4
    simp only [Value.cells, over_all (xs := [Value.int IntKind.i64 0, Value.int IntKind.i64 0, Value.bool false]) (vs := [.int .i64 f.fr, .int .i64 f.to, .bool f.cl]) rfl] at V4
    have K14 := K3.step C4 (fun b hb => by omega)
    have K4 := K.trans K14
    have W0 := V4.load1 (P := prog) (t := 3) underlying3 rfl (i := 0)
    have W1 := V4.load1 (P := prog) (t := 3) underlying3 rfl (i := 1)
    have W2 := V4.load1 (P := prog) (t := 4) underlying4 rfl (i := 2)
    simp only [List.getElem?_cons_succ, List.getElem?_cons_zero] at W0 W1 W2
    by_cases hb : f.fr ≤ e ∨ f.to ≤ f.fr
    · rw [if_pos hb] at hg
      have fin : rightB l = false := by simp [rightB, hg]
      by_cases h1 : f.fr ≤ e
      · have d1 : decide (f.fr ≤ e) = true := decide_eq_true h1
        simp (disch := omega) only [wk, wt, wl, ↓reduceIte, Nat.reduceEqDiff, Nat.reduceAdd, Nat.zero_add, not_false_eq_true, not_true_eq_false, t0, t3, t6, t7, t8, W0, W1, d1]
        rw [fin]; exact ⟨rfl, K4⟩
      · have d1 : decide (f.fr ≤ e) = false := decide_eq_false h1
        have d2 : decide (f.to ≤ f.fr) = true := decide_eq_true (by omega)
        simp (disch := omega) only [wk, wt, wl, ↓reduceIte, Nat.reduceEqDiff, Nat.reduceAdd, Nat.zero_add, not_false_eq_true, not_true_eq_false, t0, t3, t6, t7, t8, W0, W1, d1, d2]
        rw [fin]; exact ⟨rfl, K4⟩
    · rw [if_neg hb] at hg
      have d1 : decide (f.fr ≤ e) = false := decide_eq_false (by omega)
      have d2 : decide (f.to ≤ f.fr) = false := decide_eq_false (by omega)
      simp (disch := omega) only [wk, wt, wl, ↓reduceIte, Nat.reduceEqDiff, Nat.reduceAdd, Nat.zero_add, not_false_eq_true, not_true_eq_false, t0, t3, t6, t7, t8, W0, W1, d1, d2, IntWalk.i64_in, intOf_int]
      exact ⟨⟨K4, i + 1, f.to, by simp, rfl, by omega, hg⟩, by omega⟩
  · rw [List.drop_of_length_le (by omega)] at hg
    simp only [wk, wt, wl, ↓reduceIte, Nat.reduceEqDiff, Nat.reduceAdd, Nat.zero_add, not_false_eq_true, not_true_eq_false, t0, R'.len underlying22]
    simp only [rightB, hg, rightGo, Bool.true_and]
    refine ⟨?_, K⟩
    congr 1
    exact decide_eq_decide.2 (by omega)
def nearF (l : List F) : Bool := l.all fun f => decide (f.to ≤ 1099511627776) && decide (-1099511627776 ≤ f.fr)
def nearB (l : List F) (x : Int) : Bool := nearF l && (decide (x ≤ 1099511627776) && decide (-1099511627776 ≤ x))
theorem nearF_at {l : List F} (h : nearF l = true) {i : Nat} {f : F} (hx : l[i]? = some f) : f.to ≤ 1099511627776 ∧ -1099511627776 ≤ f.fr := by
  have := (List.all_eq_true.1 h) f (List.mem_of_getElem? hx)
  simpa using this
theorem near_ok {v : Value} {l : List F} {x : Int} {h : Heap} (R : FR h v l) (hl : l.length ≤ 9223372036854775807) : ACalls prog 8 #[v, .int .i64 x] h (fun y h' => y = .bool (nearB l x) ∧ h' = h) := by
  refine acalls_of_W func8 rfl (by kernel_rfl) (by kernel_rfl) (by simp [ntmps8]) ?_
  simp only [wk, wt, wl, ↓reduceIte, Nat.reduceEqDiff, Nat.reduceAdd, Nat.zero_add, not_false_eq_true, not_true_eq_false]
  refine W_loop (fun tm h' => h' = h ∧ tm 0 = v ∧ tm 1 = .int .i64 x ∧ ∃ (i : Nat), tm 5 = .int .i64 i ∧ i ≤ l.length ∧ nearF l = nearF (l.drop i)) (fun tm _ => (l.length - intOf (tm 5)).toNat) ⟨rfl, (by first | rfl | (simp only [wk, wt, wl, ↓reduceIte, Nat.reduceEqDiff, Nat.reduceAdd, Nat.zero_add, not_false_eq_true, not_true_eq_false]; done) | (simp only [wk, wt, wl, ↓reduceIte, Nat.reduceEqDiff, Nat.reduceAdd, Nat.zero_add, not_false_eq_true, not_true_eq_false]; rfl)), (by first | rfl | (simp only [wk, wt, wl, ↓reduceIte, Nat.reduceEqDiff, Nat.reduceAdd, Nat.zero_add, not_false_eq_true, not_true_eq_false]; done) | (simp only [wk, wt, wl, ↓reduceIte, Nat.reduceEqDiff, Nat.reduceAdd, Nat.zero_add, not_false_eq_true, not_true_eq_false]; rfl)), 0, (by first | rfl | (simp only [wk, wt, wl, ↓reduceIte, Nat.reduceEqDiff, Nat.reduceAdd, Nat.zero_add, not_false_eq_true, not_true_eq_false]; done) | (simp only [wk, wt, wl, ↓reduceIte, Nat.reduceEqDiff, Nat.reduceAdd, Nat.zero_add, not_false_eq_true, not_true_eq_false]; rfl)), by omega, rfl⟩ ?_
  rintro tm h' ⟨rfl, t0, t1, i, t5, hi, hg⟩
  simp only [wk, wt, wl, ↓reduceIte, Nat.reduceEqDiff, Nat.reduceAdd, Nat.zero_add, not_false_eq_true, not_true_eq_false, t0, t1, t5, R.len underlying22]
  refine condK_dec (fun hd => ?_) (fun hd => ?_)
  · have hi1 : i < l.length := by omega
    obtain ⟨f, hx⟩ : ∃ f, l[i]? = some f := ⟨l[i], by simp [hi1]⟩
    obtain ⟨F0, F1, F2, F3⟩ := R.flds hx
    have IX := Rd.index R underlying22 asz36 (q := .i64) (i := (i : Int)) (by omega) (by omega)
    simp only [Int.toNat_natCast] at IX
    rw [dropAt hx] at hg
    simp only [nearF, List.all_cons] at hg
    by_cases h1 : 1099511627776 < f.to
    · have d1 : decide (1099511627776 < f.to) = true := decide_eq_true h1
      have fin : nearB l x = false := by simp only [nearB, nearF, hg]; rw [decide_eq_false (by omega)]; simp
      simp (disch := omega) only [wk, wt, wl, ↓reduceIte, Nat.reduceEqDiff, Nat.reduceAdd, Nat.zero_add, not_false_eq_true, not_true_eq_false, t0, t1, t5, IX, F0, F1, d1]
      rw [fin]; exact ⟨rfl, trivial⟩
    · have d1 : decide (1099511627776 < f.to) = false := decide_eq_false h1
      by_cases h2 : f.fr < -1099511627776
      · have d2 : decide (f.fr < -1099511627776) = true := decide_eq_true h2
        have fin : nearB l x = false := by simp only [nearB, nearF, hg]; rw [decide_eq_false (p := -1099511627776 ≤ f.fr) (by omega)]; simp
        simp (disch := omega) only [wk, wt, wl, ↓reduceIte, Nat.reduceEqDiff, Nat.reduceAdd, Nat.zero_add, not_false_eq_true, not_true_eq_false, t0, t1, t5, IX, F0, F1, d1, d2]
        rw [fin]; exact ⟨rfl, trivial⟩
      · have d2 : decide (f.fr < -1099511627776) = false := decide_eq_false h2
        rw [decide_eq_true (p := f.to ≤ 1099511627776) (by omega), decide_eq_true (p := -1099511627776 ≤ f.fr) (by omega)] at hg
        simp (disch := omega) only [wk, wt, wl, ↓reduceIte, Nat.reduceEqDiff, Nat.reduceAdd, Nat.zero_add, not_false_eq_true, not_true_eq_false, t0, t1, t5, IX, F0, F1, d1, d2, IntWalk.i64_in, intOf_int]
        exact ⟨⟨i + 1, by simp, by omega, by simpa [nearF] using hg⟩, by omega⟩
  · rw [List.drop_of_length_le (by omega)] at hg
    have hg' : nearF l = true := hg
    by_cases h1 : x ≤ 1099511627776
    · have d1 : decide (x ≤ 1099511627776) = true := decide_eq_true h1
      simp only [wk, wt, wl, ↓reduceIte, Nat.reduceEqDiff, Nat.reduceAdd, Nat.zero_add, not_false_eq_true, not_true_eq_false, t0, t1, d1]
      simp [nearB, hg', h1]
    · have d1 : decide (x ≤ 1099511627776) = false := decide_eq_false h1
      simp only [wk, wt, wl, ↓reduceIte, Nat.reduceEqDiff, Nat.reduceAdd, Nat.zero_add, not_false_eq_true, not_true_eq_false, t0, t1, d1]
      simp [nearB, hg', h1]
end Go.Proofs.Ytgfccaaalkkdlaa.Am
end
section
/- Folds: the fold that a line is in; what is shown with it: contracts of fold.find, at, shown, Head, Next, Prev and of the document's, by walks. -/
set_option linter.unusedSimpArgs false
set_option linter.unusedVariables false
set_option maxHeartbeats 2000000
namespace Go.Proofs.Ytgfccaaalkkdlaa.Am
open Go Go.RowKit Go.Proofs.Try
theorem rightGo_at : ∀ {l : List F} {e : Int}, rightGo e l = true → (∀ (j : Nat) g, l[j]? = some g → e < g.fr ∧ g.fr < g.to) ∧ ∀ (i j : Nat) f g, i < j → l[i]? = some f → l[j]? = some g → f.to < g.fr
  | [], e, _ => ⟨fun j g h => by simp at h, fun i j f g _ h => by simp at h⟩
  | x :: l, e, h => by
    simp only [rightGo] at h
    split at h
    · cases h
    · rename_i hc
      obtain ⟨h1, h2⟩ := rightGo_at h
      refine ⟨fun j g hg => ?_, fun i j f g hij hf hg => ?_⟩
      · cases j with
        | zero => simp at hg; subst hg; omega
        | succ j => simp at hg; have := h1 j g hg; omega
      · cases j with
        | zero => omega
        | succ j =>
          simp at hg
          cases i with
          | zero => simp at hf; subst hf; exact (h1 j g hg).1
          | succ i => simp at hf; exact h2 i j f g (by omega) hf hg
theorem rightB_at {l : List F} (h : rightB l = true) : (∀ (j : Nat) g, l[j]? = some g → 0 ≤ g.fr ∧ g.fr < g.to) ∧ (∀ (i j : Nat) f g, i < j → l[i]? = some f → l[j]? = some g → f.to < g.fr) ∧ l.length ≤ 64 := by
  simp only [rightB, Bool.and_eq_true, decide_eq_true_eq] at h
  obtain ⟨h1, h2⟩ := rightGo_at h.1
  exact ⟨fun j g hg => by have := h1 j g hg; omega, h2, h.2⟩
def inGo (k : Nat) : List F → Int → Option Nat
  | [], _ => none
  | f :: l, x => if f.fr ≤ x ∧ x ≤ f.to then some k else inGo (k + 1) l x
def inF (l : List F) (x : Int) : Option Nat := inGo 0 l x
theorem inGo_some : ∀ {l : List F} {k j : Nat} {x : Int}, inGo k l x = some j → k ≤ j ∧ ∃ f, l[j - k]? = some f ∧ f.fr ≤ x ∧ x ≤ f.to
  | [], k, j, x, h => by simp [inGo] at h
  | f :: l, k, j, x, h => by
    simp only [inGo] at h
    split at h
    · rename_i hc
      simp only [Option.some.injEq] at h; subst h
      exact ⟨Nat.le_refl _, f, by simp, hc⟩
    · obtain ⟨h1, g, h2, h3⟩ := inGo_some h
      refine ⟨by omega, g, ?_, h3⟩
      rw [show j - k = (j - (k + 1)) + 1 by omega, List.getElem?_cons_succ]; exact h2
theorem inGo_none : ∀ {l : List F} {k : Nat} {x : Int}, inGo k l x = none → ∀ (j : Nat) f, l[j]? = some f → ¬ (f.fr ≤ x ∧ x ≤ f.to)
  | [], k, x, _, j, f, h => by simp at h
  | g :: l, k, x, h, j, f, hf => by
    simp only [inGo] at h
    split at h
    · cases h
    · rename_i hc
      cases j with
      | zero => simp at hf; subst hf; exact hc
      | succ j => exact inGo_none h j f (by simpa using hf)
theorem inF_some {l : List F} {j : Nat} {x : Int} (h : inF l x = some j) : ∃ f, l[j]? = some f ∧ f.fr ≤ x ∧ x ≤ f.to := by
  simpa using (inGo_some h).2
/-- Of right folds: the first that ends at a line or behind it tells. -/
theorem inF_find {l : List F} (hr : rightB l = true) {x : Int} {i : Nat} (h1 : ∀ (j : Nat) f, j < i → l[j]? = some f → f.to < x) (h2 : ∀ f, l[i]? = some f → x ≤ f.to) :
    inF l x = match l[i]? with | some f => if f.fr ≤ x then some i else none | none => none := by
  obtain ⟨g1, g2, _⟩ := rightB_at hr
  have uniq : ∀ j, inF l x = some j → j = i := fun j hj => by
    obtain ⟨f, hf, hfx, hxf⟩ := inF_some hj
    rcases Nat.lt_trichotomy j i with hlt | he | hgt
    · have := h1 j f hlt hf; omega
    · exact he
    · have hi : i < l.length := by have := (List.getElem?_eq_some_iff.1 hf).1; omega
      have hg : l[i]? = some l[i] := by simp [hi]
      have := g2 i j _ f hgt hg hf
      have := h2 _ hg
      omega
  cases hin : inF l x with
  | some j =>
    obtain rfl := uniq j hin
    obtain ⟨f, hf, hfx, _⟩ := inF_some hin
    rw [hf]; simp [hfx]
  | none =>
    cases hg : l[i]? with
    | none => rfl
    | some f =>
      have := inGo_none hin i f hg
      have := h2 f hg
      simp only
      rw [if_neg (by omega)]
def idxV : Option Nat → Int
  | some k => k
  | none => -1
theorem refIn_ok {v : Value} {l : List F} {x : Int} {h : Heap} (R : FR h v l) (hl : l.length ≤ 9223372036854775807) : ACalls prog 37 #[v, .int .i64 x] h (fun y h' => y = .int .i64 (idxV (inF l x)) ∧ h' = h) := by
  refine acalls_of_W func37 rfl (by kernel_rfl) (by kernel_rfl) (by simp [ntmps37]) ?_
  simp only [wk, wt, wl, ↓reduceIte, Nat.reduceEqDiff, Nat.reduceAdd, Nat.zero_add, not_false_eq_true, not_true_eq_false]
  refine W_loop (fun tm h' => h' = h ∧ tm 0 = v ∧ tm 1 = .int .i64 x ∧ ∃ (i : Nat), tm 5 = .int .i64 i ∧ i ≤ l.length ∧ inF l x = inGo i (l.drop i) x) (fun tm _ => (l.length - intOf (tm 5)).toNat) ⟨rfl, (by first | rfl | (simp only [wk, wt, wl, ↓reduceIte, Nat.reduceEqDiff, Nat.reduceAdd, Nat.zero_add, not_false_eq_true, not_true_eq_false]; done) | (simp only [wk, wt, wl, ↓reduceIte, Nat.reduceEqDiff, Nat.reduceAdd, Nat.zero_add, not_false_eq_true, not_true_eq_false]; rfl)), (by first | rfl | (simp only [wk, wt, wl, ↓reduceIte, Nat.reduceEqDiff, Nat.reduceAdd, Nat.zero_add, not_false_eq_true, not_true_eq_false]; done) | (simp only [wk, wt, wl, ↓reduceIte, Nat.reduceEqDiff, Nat.reduceAdd, Nat.zero_add, not_false_eq_true, not_true_eq_false]; rfl)), 0, (by first | rfl | (simp only [wk, wt, wl, ↓reduceIte, Nat.reduceEqDiff, Nat.reduceAdd, Nat.zero_add, not_false_eq_true, not_true_eq_false]; done) | (simp only [wk, wt, wl, ↓reduceIte, Nat.reduceEqDiff, Nat.reduceAdd, Nat.zero_add, not_false_eq_true, not_true_eq_false]; rfl)), by omega, rfl⟩ ?_
  rintro tm h' ⟨rfl, t0, t1, i, t5, hi, hg⟩
  simp only [wk, wt, wl, ↓reduceIte, Nat.reduceEqDiff, Nat.reduceAdd, Nat.zero_add, not_false_eq_true, not_true_eq_false, t0, t1, t5, R.len underlying22]
  refine condK_dec (fun hd => ?_) (fun hd => ?_)
  · have hi1 : i < l.length := by omega
    obtain ⟨f, hx⟩ : ∃ f, l[i]? = some f := ⟨l[i], by simp [hi1]⟩
    obtain ⟨F0, F1, F2, F3⟩ := R.flds hx
    have IX := Rd.index R underlying22 asz36 (q := .i64) (i := (i : Int)) (by omega) (by omega)
    simp only [Int.toNat_natCast] at IX
    rw [dropAt hx] at hg
    simp only [inGo] at hg
    by_cases h1 : f.fr ≤ x
    · have d1 : decide (f.fr ≤ x) = true := decide_eq_true h1
      by_cases h2 : x ≤ f.to
      · have d2 : decide (x ≤ f.to) = true := decide_eq_true h2
        rw [if_pos ⟨h1, h2⟩] at hg
        simp (disch := omega) only [wk, wt, wl, ↓reduceIte, Nat.reduceEqDiff, Nat.reduceAdd, Nat.zero_add, not_false_eq_true, not_true_eq_false, t0, t1, t5, IX, F0, F1, d1, d2]
        rw [hg]; exact ⟨rfl, trivial⟩
      · have d2 : decide (x ≤ f.to) = false := decide_eq_false h2
        rw [if_neg (by omega)] at hg
        simp (disch := omega) only [wk, wt, wl, ↓reduceIte, Nat.reduceEqDiff, Nat.reduceAdd, Nat.zero_add, not_false_eq_true, not_true_eq_false, t0, t1, t5, IX, F0, F1, d1, d2, IntWalk.i64_in, intOf_int]
        exact ⟨⟨i + 1, by simp, by omega, hg⟩, by omega⟩
    · have d1 : decide (f.fr ≤ x) = false := decide_eq_false h1
      rw [if_neg (by omega)] at hg
      simp (disch := omega) only [wk, wt, wl, ↓reduceIte, Nat.reduceEqDiff, Nat.reduceAdd, Nat.zero_add, not_false_eq_true, not_true_eq_false, t0, t1, t5, IX, F0, F1, d1, IntWalk.i64_in, intOf_int]
      exact ⟨⟨i + 1, by simp, by omega, hg⟩, by omega⟩
  · rw [List.drop_of_length_le (by omega)] at hg
    simp only [wk, wt, wl, ↓reduceIte, Nat.reduceEqDiff, Nat.reduceAdd, Nat.zero_add, not_false_eq_true, not_true_eq_false]
    simp [hg, inGo, idxV]
def shutF (l : List F) (x : Int) : Option Nat := (inF l x).bind fun k => if (l[k]?).any (·.cl) = true then some k else none
theorem refShut_ok {v : Value} {l : List F} {x : Int} {h : Heap} (R : FR h v l) (hl : l.length ≤ 9223372036854775807) : ACalls prog 30 #[v, .int .i64 x] h (fun y h' => y = .int .i64 (idxV (shutF l x)) ∧ h' = h) := by
  refine acalls_of_W func30 rfl (by kernel_rfl) (by kernel_rfl) (by simp [ntmps30]) ?_
  simp only [wk, wt, wl, ↓reduceIte, Nat.reduceEqDiff, Nat.reduceAdd, Nat.zero_add, not_false_eq_true, not_true_eq_false]
  refine (refIn_ok R hl).use_pure ?_
  cases hin : inF l x with
  | none =>
    have d0 : decide (0 ≤ (-1 : Int)) = false := by decide
    simp only [wk, wt, wl, ↓reduceIte, Nat.reduceEqDiff, Nat.reduceAdd, Nat.zero_add, not_false_eq_true, not_true_eq_false, idxV, d0]
    simp [shutF, hin, idxV]
  | some k =>
    obtain ⟨f, hx, _⟩ := inF_some hin
    have hk := (List.getElem?_eq_some_iff.1 hx).1
    obtain ⟨F0, F1, F2, F3⟩ := R.flds hx
    have IX := Rd.index R underlying22 asz36 (q := .i64) (i := (k : Int)) (by omega) (by omega)
    simp only [Int.toNat_natCast] at IX
    have d0 : decide (0 ≤ (k : Int)) = true := decide_eq_true (by omega)
    cases hcl : f.cl with
    | true =>
      rw [hcl] at F2
      simp only [wk, wt, wl, ↓reduceIte, Nat.reduceEqDiff, Nat.reduceAdd, Nat.zero_add, not_false_eq_true, not_true_eq_false, idxV, d0, IX, F2, Bool.not_true]
      simp [shutF, hin, hx, hcl, idxV]
    | false =>
      rw [hcl] at F2
      simp only [wk, wt, wl, ↓reduceIte, Nat.reduceEqDiff, Nat.reduceAdd, Nat.zero_add, not_false_eq_true, not_true_eq_false, idxV, d0, IX, F2, Bool.not_false]
      simp [shutF, hin, hx, hcl, idxV]
def shownZ (l : List F) (x : Int) : Int × Int :=
  if rightB l = true then (match shutF l x with | some k => (match l[k]? with | some f => (f.fr, f.to) | none => (x, x)) | none => (x, x)) else (x, x)
theorem shutF_some {l : List F} {x : Int} {k : Nat} (h : shutF l x = some k) : ∃ f, l[k]? = some f ∧ f.cl = true ∧ f.fr ≤ x ∧ x ≤ f.to ∧ inF l x = some k := by
  unfold shutF at h
  cases hin : inF l x with
  | none => rw [hin] at h; cases h
  | some j =>
    obtain ⟨f, hx, h1, h2⟩ := inF_some hin
    rw [hin] at h
    simp only [Option.bind_some, hx, Option.any_some] at h
    split at h
    · cases h; exact ⟨f, hx, by assumption, h1, h2, rfl⟩
    · cases h
theorem shownZ_range {l : List F} {x : Int} : shownZ l x = (x, x) ∨ ∃ (k : Nat) (f : F), shutF l x = some k ∧ rightB l = true ∧ l[k]? = some f ∧ f.cl = true ∧ f.fr ≤ x ∧ x ≤ f.to ∧ shownZ l x = (f.fr, f.to) := by
  unfold shownZ
  split
  · rename_i hr
    cases hs : shutF l x with
    | none => exact .inl rfl
    | some k =>
      obtain ⟨f, hx, h1, h2, h3, _⟩ := shutF_some hs
      exact .inr ⟨k, f, rfl, hr, hx, h1, h2, h3, by simp [hx]⟩
  · exact .inl rfl
theorem refHead_ok {v : Value} {l : List F} {x : Int} {h : Heap} (R : FR h v l) (hl : l.length ≤ 9223372036854775807) : ACalls prog 10 #[v, .int .i64 x] h (fun y h' => y = .int .i64 (shownZ l x).1 ∧ h' = h) := by
  refine acalls_of_W func10 rfl (by kernel_rfl) (by kernel_rfl) (by simp [ntmps10]) ?_
  simp only [wk, wt, wl, ↓reduceIte, Nat.reduceEqDiff, Nat.reduceAdd, Nat.zero_add, not_false_eq_true, not_true_eq_false]
  refine (refRight_ok R hl).use_pure ?_
  have d1 : decide ((-1 : Int) < 0) = true := by decide
  cases hr : rightB l with
  | false =>
    simp only [wk, wt, wl, ↓reduceIte, Nat.reduceEqDiff, Nat.reduceAdd, Nat.zero_add, not_false_eq_true, not_true_eq_false, d1]
    simp [shownZ, hr]
  | true =>
    simp only [wk, wt, wl, ↓reduceIte, Nat.reduceEqDiff, Nat.reduceAdd, Nat.zero_add, not_false_eq_true, not_true_eq_false]
    refine (refShut_ok R hl).use_pure ?_
    cases hs : shutF l x with
    | none =>
      simp only [wk, wt, wl, ↓reduceIte, Nat.reduceEqDiff, Nat.reduceAdd, Nat.zero_add, not_false_eq_true, not_true_eq_false, idxV, d1]
      simp [shownZ, hr, hs]
    | some k =>
      obtain ⟨f, hx, _⟩ := shutF_some hs
      have hk := (List.getElem?_eq_some_iff.1 hx).1
      obtain ⟨F0, F1, F2, F3⟩ := R.flds hx
      have IX := Rd.index R underlying22 asz36 (q := .i64) (i := (k : Int)) (by omega) (by omega)
      simp only [Int.toNat_natCast] at IX
      have d0 : decide ((k : Int) < 0) = false := decide_eq_false (by omega)
      simp only [wk, wt, wl, ↓reduceIte, Nat.reduceEqDiff, Nat.reduceAdd, Nat.zero_add, not_false_eq_true, not_true_eq_false, idxV, d0, IX, F0]
      simp [shownZ, hr, hs, hx]
theorem refNext_ok {v : Value} {l : List F} {x : Int} {h : Heap} (R : FR h v l) (hl : l.length ≤ 9223372036854775807) (hn : nearF l = true) (hx2 : -2199023255552 ≤ x ∧ x ≤ 2199023255552) : ACalls prog 12 #[v, .int .i64 x] h (fun y h' => y = .int .i64 ((shownZ l x).2 + 1) ∧ h' = h) := by
  refine acalls_of_W func12 rfl (by kernel_rfl) (by kernel_rfl) (by simp [ntmps12]) ?_
  simp only [wk, wt, wl, ↓reduceIte, Nat.reduceEqDiff, Nat.reduceAdd, Nat.zero_add, not_false_eq_true, not_true_eq_false]
  refine (refRight_ok R hl).use_pure ?_
  have d1 : decide ((-1 : Int) < 0) = true := by decide
  cases hr : rightB l with
  | false =>
    simp (disch := omega) only [wk, wt, wl, ↓reduceIte, Nat.reduceEqDiff, Nat.reduceAdd, Nat.zero_add, not_false_eq_true, not_true_eq_false, d1, IntWalk.i64_in]
    simp [shownZ, hr]
  | true =>
    simp only [wk, wt, wl, ↓reduceIte, Nat.reduceEqDiff, Nat.reduceAdd, Nat.zero_add, not_false_eq_true, not_true_eq_false]
    refine (refShut_ok R hl).use_pure ?_
    cases hs : shutF l x with
    | none =>
      simp (disch := omega) only [wk, wt, wl, ↓reduceIte, Nat.reduceEqDiff, Nat.reduceAdd, Nat.zero_add, not_false_eq_true, not_true_eq_false, idxV, d1, IntWalk.i64_in]
      simp [shownZ, hr, hs]
    | some k =>
      obtain ⟨f, hx, _, h3, h4, _⟩ := shutF_some hs
      have hk := (List.getElem?_eq_some_iff.1 hx).1
      have hnf := nearF_at hn hx
      obtain ⟨F0, F1, F2, F3⟩ := R.flds hx
      have IX := Rd.index R underlying22 asz36 (q := .i64) (i := (k : Int)) (by omega) (by omega)
      simp only [Int.toNat_natCast] at IX
      have d0 : decide ((k : Int) < 0) = false := decide_eq_false (by omega)
      simp (disch := omega) only [wk, wt, wl, ↓reduceIte, Nat.reduceEqDiff, Nat.reduceAdd, Nat.zero_add, not_false_eq_true, not_true_eq_false, idxV, d0, IX, F1, IntWalk.i64_in]
      simp [shownZ, hr, hs, hx]
theorem cmp_ok {f : F} {x : Int} {h : Heap} : ACalls prog 39 #[.agg #[.int .i64 f.fr, .int .i64 f.to, .bool f.cl], .int .i64 x] h (fun y h' => y = .int .i64 (if f.to < x then -1 else 1) ∧ Keeps h h') := by
  refine acalls_of_W' func39 rfl (by kernel_rfl) (by kernel_rfl) (by simp [ntmps39]) ?_
  intro H
  have K0 := Keeps.new H 36 [.int .i64 f.fr, .int .i64 f.to, .bool f.cl]
  have V0 := Var.new (e := 36) H (cs := [.int .i64 f.fr, .int .i64 f.to, .bool f.cl])
  have hb : ∀ tm : Tm, tm 0 = .agg #[.int .i64 f.fr, .int .i64 f.to, .bool f.cl] → aeff prog tm h (.box 36 (.tmp 0)) = some (.pointer (some ⟨h.size, 0, none⟩), h.new 36 [.int .i64 f.fr, .int .i64 f.to, .bool f.cl]) := fun tm ht => box_new (by simp [ev, ht, Value.cells]) ⟨_, asz36⟩ (by simp only [ev, ht, Value.cells]; simp [one])
  have W1 := V0.load1 (P := prog) (t := 3) underlying3 rfl (i := 1)
  simp only [List.getElem?_cons_succ, List.getElem?_cons_zero] at W1
  simp only [wk, wt, wl, ↓reduceIte, Nat.reduceEqDiff, Nat.reduceAdd, Nat.zero_add, not_false_eq_true, not_true_eq_false, hb (atm #[.agg #[.int .i64 f.fr, .int .i64 f.to, .bool f.cl], .int .i64 x]) rfl, W1]
  refine condK_dec (fun hc => ?_) (fun hc => ?_)
  · simp only [wk, wt, wl, ↓reduceIte, Nat.reduceEqDiff, Nat.reduceAdd, Nat.zero_add, not_false_eq_true, not_true_eq_false]
    rw [if_pos hc]; exact ⟨rfl, K0⟩
  · simp only [wk, wt, wl, ↓reduceIte, Nat.reduceEqDiff, Nat.reduceAdd, Nat.zero_add, not_false_eq_true, not_true_eq_false]
    rw [if_neg hc]; exact ⟨rfl, K0⟩
theorem shr1 {P : Program} {t : TypeId} {x : Int} (h : 0 ≤ x) : abin P .shr t (.int .u64 x) (.int .u64 1) = some (.int .u64 (x / 2)) := by
  simp [abin, ashift, IntKind.bits, Int.fdiv_eq_ediv_of_nonneg]
theorem search_ok {v : Value} {l : List F} {x : Int} {h : Heap} (R : FR h v l) (hr : rightB l = true) :
    ACalls prog 38 #[v, .int .i64 x, .func (.func 39) #[] #[]] h
      (fun y h' => ∃ i : Nat, y = .tuple #[.int .i64 i, .bool false] ∧ i ≤ l.length ∧ (∀ (j : Nat) f, j < i → l[j]? = some f → f.to < x) ∧ (∀ f, l[i]? = some f → x ≤ f.to) ∧ Keeps h h') := by
  obtain ⟨r1, r2, r3⟩ := rightB_at hr
  have sorted : ∀ (i j : Nat) f g, i ≤ j → l[i]? = some f → l[j]? = some g → f.to ≤ g.to := fun i j f g hij hf hg => by
    rcases Nat.lt_or_eq_of_le hij with hlt | rfl
    · have := r2 i j f g hlt hf hg; have := r1 j g hg; omega
    · rw [hf] at hg; cases hg; exact Int.le_refl _
  refine acalls_of_W' func38 rfl (by kernel_rfl) (by kernel_rfl) (by simp [ntmps38]) ?_
  intro H
  simp only [wk, wt, wl, ↓reduceIte, Nat.reduceEqDiff, Nat.reduceAdd, Nat.zero_add, not_false_eq_true, not_true_eq_false, R.len underlying22]
  refine W_loop (fun tm h' => Keeps h h' ∧ tm 0 = v ∧ tm 1 = .int .i64 x ∧ tm 2 = .func (.func 39) #[] #[] ∧ tm 8 = .int .i64 l.length ∧ ∃ (i j : Nat), tm 9 = .int .i64 i ∧ tm 10 = .int .i64 j ∧ i ≤ j ∧ j ≤ l.length ∧ (∀ (k : Nat) f, k < i → l[k]? = some f → f.to < x) ∧ (∀ (k : Nat) f, j ≤ k → l[k]? = some f → x ≤ f.to))
    (fun tm _ => (intOf (tm 10) - intOf (tm 9)).toNat) ⟨Keeps.refl H, (by first | rfl | (simp only [wk, wt, wl, ↓reduceIte, Nat.reduceEqDiff, Nat.reduceAdd, Nat.zero_add, not_false_eq_true, not_true_eq_false]; done) | (simp only [wk, wt, wl, ↓reduceIte, Nat.reduceEqDiff, Nat.reduceAdd, Nat.zero_add, not_false_eq_true, not_true_eq_false]; rfl)), (by first | rfl | (simp only [wk, wt, wl, ↓reduceIte, Nat.reduceEqDiff, Nat.reduceAdd, Nat.zero_add, not_false_eq_true, not_true_eq_false]; done) | (simp only [wk, wt, wl, ↓reduceIte, Nat.reduceEqDiff, Nat.reduceAdd, Nat.zero_add, not_false_eq_true, not_true_eq_false]; rfl)), (by first | rfl | (simp only [wk, wt, wl, ↓reduceIte, Nat.reduceEqDiff, Nat.reduceAdd, Nat.zero_add, not_false_eq_true, not_true_eq_false]; done) | (simp only [wk, wt, wl, ↓reduceIte, Nat.reduceEqDiff, Nat.reduceAdd, Nat.zero_add, not_false_eq_true, not_true_eq_false]; rfl)), (by first | rfl | (simp only [wk, wt, wl, ↓reduceIte, Nat.reduceEqDiff, Nat.reduceAdd, Nat.zero_add, not_false_eq_true, not_true_eq_false]; done) | (simp only [wk, wt, wl, ↓reduceIte, Nat.reduceEqDiff, Nat.reduceAdd, Nat.zero_add, not_false_eq_true, not_true_eq_false]; rfl)), 0, l.length, (by first | rfl | (simp only [wk, wt, wl, ↓reduceIte, Nat.reduceEqDiff, Nat.reduceAdd, Nat.zero_add, not_false_eq_true, not_true_eq_false]; done) | (simp only [wk, wt, wl, ↓reduceIte, Nat.reduceEqDiff, Nat.reduceAdd, Nat.zero_add, not_false_eq_true, not_true_eq_false]; rfl)), (by first | rfl | (simp only [wk, wt, wl, ↓reduceIte, Nat.reduceEqDiff, Nat.reduceAdd, Nat.zero_add, not_false_eq_true, not_true_eq_false]; done) | (simp only [wk, wt, wl, ↓reduceIte, Nat.reduceEqDiff, Nat.reduceAdd, Nat.zero_add, not_false_eq_true, not_true_eq_false]; rfl)), Nat.zero_le _, Nat.le_refl _, fun k f hk => by omega, fun k f hk hf => by have := (List.getElem?_eq_some_iff.1 hf).1; omega⟩ ?_
  rintro tm h' ⟨K, t0, t1, t2, t8, i, j, t9, t10, hij, hjl, hA, hB⟩
  have R' : FR h' v l := R.keeps K
  simp only [wk, wt, wl, ↓reduceIte, Nat.reduceEqDiff, Nat.reduceAdd, Nat.zero_add, not_false_eq_true, not_true_eq_false, t0, t1, t2, t9, t10]
  refine condK_dec (fun hd => ?_) (fun hd => ?_)
  · obtain ⟨m, hm⟩ : ∃ m : Nat, m = (i + j) / 2 := ⟨_, rfl⟩
    have hm1 : ((i : Int) + j) / 2 = (m : Int) := by omega
    have hml : m < l.length := by omega
    obtain ⟨f, hx⟩ : ∃ f, l[m]? = some f := ⟨l[m], by simp [hml]⟩
    obtain ⟨F0, F1, F2, F3⟩ := R'.flds hx
    have IX := Rd.index R' underlying22 asz36 (q := .i64) (i := (m : Int)) (by omega) (by omega)
    simp only [Int.toNat_natCast] at IX
    simp (disch := omega) only [wk, wt, wl, ↓reduceIte, Nat.reduceEqDiff, Nat.reduceAdd, Nat.zero_add, not_false_eq_true, not_true_eq_false, t0, t1, t2, t9, t10, aconv, IntWalk.i64_in, IntWalk.u64_in, shr1, hm1, IX, F3, callV_func, body39]
    refine cmp_ok.use ?_
    rintro _ h2 ⟨rfl, K2⟩
    have K02 := K.trans K2
    by_cases hc : f.to < x
    · have d1 : decide ((-1 : Int) < 0) = true := by decide
      rw [if_pos hc]
      simp (disch := omega) only [wk, wt, wl, ↓reduceIte, Nat.reduceEqDiff, Nat.reduceAdd, Nat.zero_add, not_false_eq_true, not_true_eq_false, t0, t1, t2, t8, t9, t10, d1, IntWalk.i64_in, intOf_int]
      refine ⟨⟨K02, m + 1, j, by simp, rfl, by omega, hjl, fun k g hk hg => ?_, hB⟩, by omega⟩
      have := sorted k m g f (by omega) hg hx; omega
    · have d1 : decide ((1 : Int) < 0) = false := by decide
      rw [if_neg hc]
      simp (disch := omega) only [wk, wt, wl, ↓reduceIte, Nat.reduceEqDiff, Nat.reduceAdd, Nat.zero_add, not_false_eq_true, not_true_eq_false, t0, t1, t2, t8, t9, t10, d1, IntWalk.i64_in, intOf_int]
      refine ⟨⟨K02, i, m, rfl, rfl, by omega, by omega, hA, fun k g hk hg => ?_⟩, by omega⟩
      have := sorted m k f g hk hx hg; omega
  · have hije : i = j := by omega
    subst hije
    by_cases hil : i < l.length
    · have d1 : decide ((i : Int) < l.length) = true := decide_eq_true (by omega)
      obtain ⟨f, hx⟩ : ∃ f, l[i]? = some f := ⟨l[i], by simp [hil]⟩
      obtain ⟨F0, F1, F2, F3⟩ := R'.flds hx
      have IX := Rd.index R' underlying22 asz36 (q := .i64) (i := (i : Int)) (by omega) (by omega)
      simp only [Int.toNat_natCast] at IX
      simp only [wk, wt, wl, ↓reduceIte, Nat.reduceEqDiff, Nat.reduceAdd, Nat.zero_add, not_false_eq_true, not_true_eq_false, t0, t1, t2, t8, t9, d1, IX, F3, callV_func, body39]
      refine cmp_ok.use ?_
      rintro _ h2 ⟨rfl, K2⟩
      have d2 : decide ((if f.to < x then (-1 : Int) else 1) = 0) = false := decide_eq_false (by split <;> omega)
      simp only [wk, wt, wl, ↓reduceIte, Nat.reduceEqDiff, Nat.reduceAdd, Nat.zero_add, not_false_eq_true, not_true_eq_false, d2]
      exact ⟨i, rfl, hjl, hA, fun g hg => hB i g (Nat.le_refl _) hg, K.trans K2⟩
    · have d1 : decide ((i : Int) < l.length) = false := decide_eq_false (by omega)
      simp only [wk, wt, wl, ↓reduceIte, Nat.reduceEqDiff, Nat.reduceAdd, Nat.zero_add, not_false_eq_true, not_true_eq_false, t8, t9, d1]
      exact ⟨i, rfl, hjl, hA, fun g hg => hB i g (Nat.le_refl _) hg, K⟩
end Go.Proofs.Ytgfccaaalkkdlaa.Am
end
section
/- Folds: what is shown with a line: contracts of fold.find, at, shown, Head, Next, Prev, of the document's Prev and Same, by walks. -/
set_option linter.unusedSimpArgs false
set_option linter.unusedVariables false
set_option maxHeartbeats 2000000
namespace Go.Proofs.Ytgfccaaalkkdlaa.Am
open Go Go.RowKit Go.Proofs.Try
theorem stood_fold : prog.stoodInHeld 36 = false := by kernel_rfl
theorem guard_fold : prog.eqGuardType prog.depth 36 = false := by kernel_rfl
theorem neq_fold {x y : Int} {c : Bool} : abin prog .neq 36 (.agg #[.int .i64 x, .int .i64 y, .bool c]) (.agg #[.int .i64 x, .int .i64 y, .bool c]) = some (.bool false) := by
  simp [abin, aeq, underlying36, stood_fold, guard_fold, aeqF, apart, aeq1, wt, isAggD]
theorem sameF_ok {a b : Value} {l : List F} {h : Heap} (ha : FR h a l) (hb : FR h b l) (hl : l.length ≤ 9223372036854775807) : ACalls prog 15 #[a, b] h (fun v h' => v = .bool true ∧ h' = h) := by
  refine acalls_of_W func15 rfl (by kernel_rfl) (by kernel_rfl) (by simp [ntmps15]) ?_
  have d0 : decide (¬ ((l.length : Nat) : Int) = l.length) = false := decide_eq_false (by simp)
  simp only [wk, wt, wl, ↓reduceIte, Nat.reduceEqDiff, Nat.reduceAdd, Nat.zero_add, not_false_eq_true, not_true_eq_false, ha.len underlying22, hb.len underlying22, d0]
  refine W_loop (fun tm h' => h' = h ∧ tm 0 = a ∧ tm 1 = b ∧ ∃ i : Nat, tm 5 = .int .i64 i ∧ i ≤ l.length) (fun tm _ => (l.length - intOf (tm 5)).toNat) ⟨rfl, (by first | rfl | (simp only [wk, wt, wl, ↓reduceIte, Nat.reduceEqDiff, Nat.reduceAdd, Nat.zero_add, not_false_eq_true, not_true_eq_false]; done) | (simp only [wk, wt, wl, ↓reduceIte, Nat.reduceEqDiff, Nat.reduceAdd, Nat.zero_add, not_false_eq_true, not_true_eq_false]; rfl)), (by first | rfl | (simp only [wk, wt, wl, ↓reduceIte, Nat.reduceEqDiff, Nat.reduceAdd, Nat.zero_add, not_false_eq_true, not_true_eq_false]; done) | (simp only [wk, wt, wl, ↓reduceIte, Nat.reduceEqDiff, Nat.reduceAdd, Nat.zero_add, not_false_eq_true, not_true_eq_false]; rfl)), 0, (by first | rfl | (simp only [wk, wt, wl, ↓reduceIte, Nat.reduceEqDiff, Nat.reduceAdd, Nat.zero_add, not_false_eq_true, not_true_eq_false]; done) | (simp only [wk, wt, wl, ↓reduceIte, Nat.reduceEqDiff, Nat.reduceAdd, Nat.zero_add, not_false_eq_true, not_true_eq_false]; rfl)), by omega⟩ ?_
  rintro tm h' ⟨rfl, t0, t1, i, t5, hi⟩
  simp only [wk, wt, wl, ↓reduceIte, Nat.reduceEqDiff, Nat.reduceAdd, Nat.zero_add, not_false_eq_true, not_true_eq_false, t0, t1, t5, ha.len underlying22]
  refine condK_dec (fun hd => ?_) (fun hd => ?_)
  · have hi1 : i < l.length := by omega
    obtain ⟨f, hx⟩ : ∃ f, l[i]? = some f := ⟨l[i], by simp [hi1]⟩
    obtain ⟨A0, A1, A2, A3⟩ := FR.flds ha hx
    obtain ⟨B0, B1, B2, B3⟩ := FR.flds hb hx
    have IA := Rd.index ha underlying22 asz36 (q := .i64) (i := (i : Int)) (by omega) (by omega)
    have IB := Rd.index hb underlying22 asz36 (q := .i64) (i := (i : Int)) (by omega) (by omega)
    simp only [Int.toNat_natCast] at IA IB
    simp only [wk, wt, wl, ↓reduceIte, Nat.reduceEqDiff, Nat.reduceAdd, Nat.zero_add, not_false_eq_true, not_true_eq_false]
    refine adraw_order [(0, false), (1, false), (2, false), (3, false), (4, false), (5, false), (6, false), (7, false), (8, false)] mixed (by kernel_rfl) (by kernel_rfl) (by kernel_rfl) (by with_reducible repeat (first | exact PF_retK | refine PF_thenK ?_ | refine PF_blockK ?_)) ?_
    simp (disch := omega) only [wk, wt, wl, ↓reduceIte, Nat.reduceEqDiff, Nat.reduceAdd, Nat.zero_add, not_false_eq_true, not_true_eq_false, t0, t1, t5, IA, IB, A3, B3, neq_fold, IntWalk.i64_in, intOf_int]
    exact ⟨⟨i + 1, by simp, by omega⟩, by omega⟩
  · simp only [wk, wt, wl, ↓reduceIte, Nat.reduceEqDiff, Nat.reduceAdd, Nat.zero_add, not_false_eq_true, not_true_eq_false]
theorem find_ok {v : Value} {l : List F} {x : Int} {h : Heap} (R : FR h v l) (hr : rightB l = true) :
    ACalls prog 32 #[v, .int .i64 x] h (fun y h' => ∃ i : Nat, y = .tuple #[.int .i64 i, .bool (l[i]?.any fun f => decide (f.fr ≤ x))] ∧ i ≤ l.length ∧ (∀ (j : Nat) f, j < i → l[j]? = some f → f.to < x) ∧ (∀ f, l[i]? = some f → x ≤ f.to) ∧ Keeps h h') := by
  refine acalls_of_W' func32 rfl (by kernel_rfl) (by kernel_rfl) (by simp [ntmps32]) ?_
  intro H
  simp only [wk, wt, wl, ↓reduceIte, Nat.reduceEqDiff, Nat.reduceAdd, Nat.zero_add, not_false_eq_true, not_true_eq_false]
  refine (search_ok R hr).use ?_
  rintro _ h2 ⟨i, rfl, hi, hA, hB, K⟩
  have R2 : FR h2 v l := R.keeps K
  simp only [wk, wt, wl, ↓reduceIte, Nat.reduceEqDiff, Nat.reduceAdd, Nat.zero_add, not_false_eq_true, not_true_eq_false]
  refine adraw_order [(0, false), (1, false), (2, false), (3, false), (4, false), (5, false), (6, false), (7, false), (8, false), (9, false), (10, false), (11, false), (12, false), (13, false), (14, false), (15, false)] mixed (by kernel_rfl) (by kernel_rfl) (by kernel_rfl) (by with_reducible repeat (first | exact PF_retK | refine PF_thenK ?_ | refine PF_blockK ?_)) ?_
  by_cases hil : i < l.length
  · have d1 : decide ((i : Int) < l.length) = true := decide_eq_true (by omega)
    obtain ⟨f, hx⟩ : ∃ f, l[i]? = some f := ⟨l[i], by simp [hil]⟩
    obtain ⟨F0, F1, F2, F3⟩ := R2.flds hx
    have IX := Rd.index R2 underlying22 asz36 (q := .i64) (i := (i : Int)) (by omega) (by omega)
    simp only [Int.toNat_natCast] at IX
    simp (disch := omega) only [wk, wt, wl, ↓reduceIte, Nat.reduceEqDiff, Nat.reduceAdd, Nat.zero_add, not_false_eq_true, not_true_eq_false, R2.len underlying22, d1, IX, F0]
    exact ⟨i, by simp [hx], hi, hA, hB, K⟩
  · have d1 : decide ((i : Int) < l.length) = false := decide_eq_false (by omega)
    simp (disch := omega) only [wk, wt, wl, ↓reduceIte, Nat.reduceEqDiff, Nat.reduceAdd, Nat.zero_add, not_false_eq_true, not_true_eq_false, R2.len underlying22, d1]
    have hx : l[i]? = none := List.getElem?_eq_none (by omega)
    exact ⟨i, by simp [hx], hi, hA, hB, K⟩
def atV (l : List F) (x : Int) : Value :=
  if rightB l = true then (match inF l x with | some k => .tuple #[.int .i64 k, .int .i64 0] | none => .tuple #[.int .i64 0, .int .i64 32]) else .tuple #[.int .i64 0, .int .i64 1]
theorem at_ok {v : Value} {l : List F} {x : Int} {h : Heap} (R : FR h v l) (hl : l.length ≤ 9223372036854775807) : ACalls prog 35 #[v, .int .i64 x] h (fun y h' => y = atV l x ∧ Keeps h h') := by
  refine acalls_of_W' func35 rfl (by kernel_rfl) (by kernel_rfl) (by simp [ntmps35]) ?_
  intro H
  simp only [wk, wt, wl, ↓reduceIte, Nat.reduceEqDiff, Nat.reduceAdd, Nat.zero_add, not_false_eq_true, not_true_eq_false]
  refine (right_ok R hl).use ?_
  rintro _ h2 ⟨rfl, K2⟩
  cases hr : rightB l with
  | false =>
    simp only [wk, wt, wl, ↓reduceIte, Nat.reduceEqDiff, Nat.reduceAdd, Nat.zero_add, not_false_eq_true, not_true_eq_false, Bool.not_false]
    simp only [atV, hr]
    exact ⟨rfl, K2⟩
  | true =>
    simp only [wk, wt, wl, ↓reduceIte, Nat.reduceEqDiff, Nat.reduceAdd, Nat.zero_add, not_false_eq_true, not_true_eq_false, Bool.not_true]
    refine (find_ok (RS.keeps R K2) hr).use ?_
    rintro _ h3 ⟨i, rfl, hi, hA, hB, K3⟩
    have hin := inF_find hr hA hB
    cases hx : l[i]? with
    | none =>
      rw [hx] at hin
      simp only at hin
      simp only [wk, wt, wl, ↓reduceIte, Nat.reduceEqDiff, Nat.reduceAdd, Nat.zero_add, not_false_eq_true, not_true_eq_false, hx, Option.any_none, Bool.not_false]
      simp [atV, hr, hin, K2.trans K3]
    | some f =>
      rw [hx] at hin
      simp only at hin
      by_cases hc : f.fr ≤ x
      · rw [if_pos hc] at hin
        have d1 : decide (f.fr ≤ x) = true := decide_eq_true hc
        simp only [wk, wt, wl, ↓reduceIte, Nat.reduceEqDiff, Nat.reduceAdd, Nat.zero_add, not_false_eq_true, not_true_eq_false, hx, Option.any_some, d1, Bool.not_true]
        simp [atV, hr, hin, K2.trans K3]
      · rw [if_neg hc] at hin
        have d1 : decide (f.fr ≤ x) = false := decide_eq_false hc
        simp only [wk, wt, wl, ↓reduceIte, Nat.reduceEqDiff, Nat.reduceAdd, Nat.zero_add, not_false_eq_true, not_true_eq_false, hx, Option.any_some, d1, Bool.not_false]
        simp [atV, hr, hin, K2.trans K3]
theorem shown_ok {v : Value} {l : List F} {x : Int} {h : Heap} (R : FR h v l) (hl : l.length ≤ 9223372036854775807) : ACalls prog 29 #[v, .int .i64 x] h (fun y h' => y = .tuple #[.int .i64 (shownZ l x).1, .int .i64 (shownZ l x).2] ∧ Keeps h h') := by
  refine acalls_of_W' func29 rfl (by kernel_rfl) (by kernel_rfl) (by simp [ntmps29]) ?_
  intro H
  simp only [wk, wt, wl, ↓reduceIte, Nat.reduceEqDiff, Nat.reduceAdd, Nat.zero_add, not_false_eq_true, not_true_eq_false]
  refine (at_ok R hl).use ?_
  rintro _ h2 ⟨rfl, K2⟩
  have R2 : FR h2 v l := R.keeps K2
  have d0 : decide ((0 : Int) = 0) = true := by decide
  have d1 : decide ((1 : Int) = 0) = false := by decide
  have d32 : decide ((32 : Int) = 0) = false := by decide
  cases hr : rightB l with
  | false =>
    simp only [atV, hr, Bool.false_eq_true, if_false]
    simp only [wk, wt, wl, ↓reduceIte, Nat.reduceEqDiff, Nat.reduceAdd, Nat.zero_add, not_false_eq_true, not_true_eq_false, d1]
    simp [shownZ, hr, K2]
  | true =>
    cases hin : inF l x with
    | none =>
      simp only [atV, hr, hin, if_true]
      simp only [wk, wt, wl, ↓reduceIte, Nat.reduceEqDiff, Nat.reduceAdd, Nat.zero_add, not_false_eq_true, not_true_eq_false, d32]
      simp [shownZ, hr, shutF, hin, K2]
    | some k =>
      obtain ⟨f, hx, _⟩ := inF_some hin
      have hk := (List.getElem?_eq_some_iff.1 hx).1
      obtain ⟨F0, F1, F2, F3⟩ := R2.flds hx
      have IX := Rd.index R2 underlying22 asz36 (q := .i64) (i := (k : Int)) (by omega) (by omega)
      simp only [Int.toNat_natCast] at IX
      simp only [atV, hr, hin, if_true]
      cases hcl : f.cl with
      | false =>
        rw [hcl] at F2
        simp only [wk, wt, wl, ↓reduceIte, Nat.reduceEqDiff, Nat.reduceAdd, Nat.zero_add, not_false_eq_true, not_true_eq_false, d0, IX, F2]
        simp [shownZ, hr, shutF, hin, hx, hcl, K2]
      | true =>
        rw [hcl] at F2
        simp only [wk, wt, wl, ↓reduceIte, Nat.reduceEqDiff, Nat.reduceAdd, Nat.zero_add, not_false_eq_true, not_true_eq_false, d0, IX, F2]
        refine adraw_order [(0, false), (1, false), (2, false), (3, false), (4, false), (5, false), (6, false), (7, false), (8, false), (9, false), (10, false), (11, false)] mixed (by kernel_rfl) (by kernel_rfl) (by kernel_rfl) (by with_reducible repeat (first | exact PF_retK | refine PF_thenK ?_ | refine PF_blockK ?_)) ?_
        simp (disch := omega) only [wk, wt, wl, ↓reduceIte, Nat.reduceEqDiff, Nat.reduceAdd, Nat.zero_add, not_false_eq_true, not_true_eq_false, IX, F0, F1]
        simp [shownZ, hr, shutF, hin, hx, hcl, K2]
theorem head_ok {v : Value} {l : List F} {x : Int} {h : Heap} (R : FR h v l) (hl : l.length ≤ 9223372036854775807) : ACalls prog 9 #[v, .int .i64 x] h (fun y h' => y = .int .i64 (shownZ l x).1 ∧ Keeps h h') := by
  refine acalls_of_W func9 rfl (by kernel_rfl) (by kernel_rfl) (by simp [ntmps9]) ?_
  simp only [wk, wt, wl, ↓reduceIte, Nat.reduceEqDiff, Nat.reduceAdd, Nat.zero_add, not_false_eq_true, not_true_eq_false]
  refine (shown_ok R hl).use ?_
  rintro _ h2 ⟨rfl, K2⟩
  simp only [wk, wt, wl, ↓reduceIte, Nat.reduceEqDiff, Nat.reduceAdd, Nat.zero_add, not_false_eq_true, not_true_eq_false]
  exact K2
theorem shownZ_in {l : List F} {x : Int} (hn : nearF l = true) (hx : -2199023255552 ≤ x ∧ x ≤ 2199023255552) : -2199023255552 ≤ (shownZ l x).1 ∧ (shownZ l x).1 ≤ x ∧ x ≤ (shownZ l x).2 ∧ (shownZ l x).2 ≤ 2199023255552 := by
  rcases shownZ_range (l := l) (x := x) with e | ⟨k, f, _, _, hf, _, h1, h2, e⟩
  · rw [e]; omega
  · rw [e]; have := nearF_at hn hf; simp only; omega
theorem next_ok {v : Value} {l : List F} {x : Int} {h : Heap} (R : FR h v l) (hl : l.length ≤ 9223372036854775807) (hn : nearF l = true) (hx : -2199023255552 ≤ x ∧ x ≤ 2199023255552) : ACalls prog 11 #[v, .int .i64 x] h (fun y h' => y = .int .i64 ((shownZ l x).2 + 1) ∧ Keeps h h') := by
  have := shownZ_in hn hx
  refine acalls_of_W func11 rfl (by kernel_rfl) (by kernel_rfl) (by simp [ntmps11]) ?_
  simp only [wk, wt, wl, ↓reduceIte, Nat.reduceEqDiff, Nat.reduceAdd, Nat.zero_add, not_false_eq_true, not_true_eq_false]
  refine (shown_ok R hl).use ?_
  rintro _ h2 ⟨rfl, K2⟩
  simp (disch := omega) only [wk, wt, wl, ↓reduceIte, Nat.reduceEqDiff, Nat.reduceAdd, Nat.zero_add, not_false_eq_true, not_true_eq_false, IntWalk.i64_in]
  exact K2
def prevZ (l : List F) (x : Int) : Int := if 0 < (shownZ l x).1 then (shownZ l ((shownZ l x).1 - 1)).1 else -1
theorem prev_ok {v : Value} {l : List F} {x : Int} {h : Heap} (R : FR h v l) (hl : l.length ≤ 9223372036854775807) (hn : nearF l = true) (hx : -2199023255552 ≤ x ∧ x ≤ 2199023255552) : ACalls prog 13 #[v, .int .i64 x] h (fun y h' => y = .int .i64 (prevZ l x) ∧ Keeps h h') := by
  have := shownZ_in hn hx
  refine acalls_of_W func13 rfl (by kernel_rfl) (by kernel_rfl) (by simp [ntmps13]) ?_
  simp only [wk, wt, wl, ↓reduceIte, Nat.reduceEqDiff, Nat.reduceAdd, Nat.zero_add, not_false_eq_true, not_true_eq_false]
  refine (shown_ok R hl).use ?_
  rintro _ h2 ⟨rfl, K2⟩
  simp only [wk, wt, wl, ↓reduceIte, Nat.reduceEqDiff, Nat.reduceAdd, Nat.zero_add, not_false_eq_true, not_true_eq_false]
  refine condK_dec (fun hc => ?_) (fun hc => ?_)
  · simp (disch := omega) only [wk, wt, wl, ↓reduceIte, Nat.reduceEqDiff, Nat.reduceAdd, Nat.zero_add, not_false_eq_true, not_true_eq_false, IntWalk.i64_in]
    refine (head_ok (RS.keeps R K2) hl).use ?_
    rintro _ h3 ⟨rfl, K3⟩
    simp only [wk, wt, wl, ↓reduceIte, Nat.reduceEqDiff, Nat.reduceAdd, Nat.zero_add, not_false_eq_true, not_true_eq_false]
    rw [prevZ, if_pos hc]; exact ⟨rfl, K2.trans K3⟩
  · simp only [wk, wt, wl, ↓reduceIte, Nat.reduceEqDiff, Nat.reduceAdd, Nat.zero_add, not_false_eq_true, not_true_eq_false]
    rw [prevZ, if_neg hc]; exact ⟨rfl, K2⟩
theorem refPrev_ok {v : Value} {l : List F} {x : Int} {h : Heap} (R : FR h v l) (hl : l.length ≤ 9223372036854775807) (hn : nearF l = true) (hx : -2199023255552 ≤ x ∧ x ≤ 2199023255552) : ACalls prog 14 #[v, .int .i64 x] h (fun y h' => y = .int .i64 (prevZ l x) ∧ h' = h) := by
  have := shownZ_in hn hx
  refine acalls_of_W func14 rfl (by kernel_rfl) (by kernel_rfl) (by simp [ntmps14]) ?_
  simp only [wk, wt, wl, ↓reduceIte, Nat.reduceEqDiff, Nat.reduceAdd, Nat.zero_add, not_false_eq_true, not_true_eq_false]
  refine (refHead_ok R hl).use_pure ?_
  simp only [wk, wt, wl, ↓reduceIte, Nat.reduceEqDiff, Nat.reduceAdd, Nat.zero_add, not_false_eq_true, not_true_eq_false]
  refine condK_dec (fun hc => ?_) (fun hc => ?_)
  · simp only [wk, wt, wl, ↓reduceIte, Nat.reduceEqDiff, Nat.reduceAdd, Nat.zero_add, not_false_eq_true, not_true_eq_false]
    rw [prevZ, if_neg (by omega)]; exact ⟨rfl, trivial⟩
  · simp (disch := omega) only [wk, wt, wl, ↓reduceIte, Nat.reduceEqDiff, Nat.reduceAdd, Nat.zero_add, not_false_eq_true, not_true_eq_false, IntWalk.i64_in]
    refine (refHead_ok R hl).use_pure ?_
    simp only [wk, wt, wl, ↓reduceIte, Nat.reduceEqDiff, Nat.reduceAdd, Nat.zero_add, not_false_eq_true, not_true_eq_false]
    rw [prevZ, if_pos (by omega)]; exact ⟨rfl, trivial⟩
end Go.Proofs.Ytgfccaaalkkdlaa.Am
end
section
/- Folds: the rows that are shown: contracts of slices.Clip, of fold.Rows and of the document's Rows, by walks. -/
set_option linter.unusedSimpArgs false
set_option linter.unusedVariables false
set_option maxHeartbeats 4000000
namespace Go.Proofs.Ytgfccaaalkkdlaa.Am
open Go Go.RowKit Go.Proofs.Try
theorem abuiltin_min {k : IntKind} {ts : Array TypeId} {x y : Int} : abuiltin prog .min ts #[.int k x, .int k y] = some (.int k (if y < x then y else x)) := by simp [abuiltin, amm]
theorem abuiltin_max {k : IntKind} {ts : Array TypeId} {x y : Int} : abuiltin prog .max ts #[.int k x, .int k y] = some (.int k (if x < y then y else x)) := by simp [abuiltin, amm]
theorem build_f2 {x y : Int} : abuild prog 36 #[(0, .int .i64 x), (1, .int .i64 y)] = some (.agg #[.int .i64 x, .int .i64 y, .bool false]) := by simp [abuild, wt, aplaces, Instr.fill, Value.cells]
theorem build_f3 {x y : Int} {b : Bool} : abuild prog 36 #[(0, .int .i64 x), (1, .int .i64 y), (2, .bool b)] = some (.agg #[.int .i64 x, .int .i64 y, .bool b]) := by simp [abuild, wt, aplaces, Instr.fill, Value.cells]
theorem bsf {h : Heap} {x y : Int} {b : Bool} : abuildSlice prog h 22 1 #[(0, .agg #[.int .i64 x, .int .i64 y, .bool b])] = some (.slice (some ⟨h.size, 0, none⟩) 1 2, h.new 36 (cF ⟨x, y, b⟩)) :=
  buildA3 underlying22 asz36 azero36 rfl rfl rfl rfl
theorem clip_ok {v : Value} {l : List F} {h : Heap} (R : FR h v l) : ACalls prog 31 #[v] h (fun y h' => OS prog h.size h 3 cF y l ∧ (∀ a n c, y = .slice (some a) n c → c = n + 1) ∧ h' = h) := by
  refine acalls_of_W func31 rfl (by kernel_rfl) (by kernel_rfl) (by simp [ntmps31]) ?_
  simp only [wk, wt, wl, ↓reduceIte, Nat.reduceEqDiff, Nat.reduceAdd, Nat.zero_add, not_false_eq_true, not_true_eq_false, R.len underlying22]
  have R0 := R
  obtain ⟨hl, h2⟩ := R
  rcases h2 with ⟨h0, rfl | rfl⟩ | ⟨b, o, c, k, rfl, hb, hk, hlv, ha, ho, hc⟩
  · have : l = [] := List.eq_nil_of_length_eq_zero h0
    subst this
    have e : aslice prog h 22 (.slice none 0 0) none (some (.int .i64 ((([] : List F).length : Nat) : Int))) (some (.int .i64 ((([] : List F).length : Nat) : Int))) = some (.slice none 0 0) := by
      simp [aslice, underlying22, asz36, boundOf]
    rw [e]
    simp only [wk, wt, wl, ↓reduceIte, Nat.reduceEqDiff, Nat.reduceAdd, Nat.zero_add, not_false_eq_true, not_true_eq_false]
    exact ⟨OS.nil, (fun a n c e => by cases e), trivial⟩
  · have : l = [] := List.eq_nil_of_length_eq_zero h0
    subst this
    have e : aslice prog h 22 (.slice none 0 1) none (some (.int .i64 ((([] : List F).length : Nat) : Int))) (some (.int .i64 ((([] : List F).length : Nat) : Int))) = some (.slice none 0 0) := by
      simp [aslice, underlying22, asz36, boundOf]
    rw [e]
    simp only [wk, wt, wl, ↓reduceIte, Nat.reduceEqDiff, Nat.reduceAdd, Nat.zero_add, not_false_eq_true, not_true_eq_false]
    exact ⟨OS.nil, (fun a n c e => by cases e), trivial⟩
  · have hm : (l.length : Int) ≤ ((if c = 0 then l.length else max l.length (c - 1) : Nat) : Int) := by split <;> omega
    have e : aslice prog h 22 (.slice (some ⟨b, o, none⟩) l.length c) none (some (.int .i64 (l.length : Int))) (some (.int .i64 (l.length : Int))) = some (.slice (some ⟨b, o, none⟩) l.length (l.length + 1)) := by
      simp [aslice, underlying22, asz36, hk, ha, boundOf, hm]
    rw [e]
    simp only [wk, wt, wl, ↓reduceIte, Nat.reduceEqDiff, Nat.reduceAdd, Nat.zero_add, not_false_eq_true, not_true_eq_false]
    refine ⟨⟨⟨hl, .inr ⟨b, o, l.length + 1, k, rfl, hb, hk, hlv, ha, ho, hc⟩⟩, .inr (.inl ⟨_, rfl⟩)⟩, (fun a n c e => by cases e; rfl), trivial⟩
def nextZ1 (l : List F) (x : Int) : Int := (shownZ l x).2 + 1
inductive RowsR (l : List F) (n : Int) : Int → List F → Prop
  | done {i : Int} (h : ¬ i < n) : RowsR l n i []
  | step {i : Int} {r : List F} (h : i < n) (t : RowsR l n (nextZ1 l i) r) : RowsR l n i (⟨i, (if n < nextZ1 l i then n else nextZ1 l i) - 1, (shutF l i).isSome⟩ :: r)
theorem RowsR.det {l : List F} {n : Int} {i : Int} {r : List F} (H : RowsR l n i r) : ∀ {r' : List F}, RowsR l n i r' → r = r' := by
  induction H with
  | done h =>
    intro r' G
    cases G with
    | done _ => rfl
    | step g _ => exact absurd g h
  | step h t ih =>
    intro r' G
    cases G with
    | done g => exact absurd h g
    | step _ u => rw [ih u]
theorem idxV_ge {o : Option Nat} : decide (0 ≤ idxV o) = o.isSome := by
  cases o with
  | none => rfl
  | some k => simp [idxV]
theorem shownZ_le {l : List F} {x : Int} (hn : nearF l = true) : (shownZ l x).2 ≤ max x 1099511627776 := by
  rcases shownZ_range (l := l) (x := x) with e | ⟨k, f, _, _, hf, _, h1, h2, e⟩
  · rw [e]; simp only; omega
  · rw [e]; have := nearF_at hn hf; simp only; omega
theorem refRows_ok {v : Value} {l : List F} {n : Int} {h : Heap} (R : FR h v l) (hl : l.length ≤ 9223372036854775807) (hn : nearF l = true) (h3 : n ≤ 3000) (hr : rightB l = true) :
    ACalls prog 17 #[v, .int .i64 n] h (fun y h' => ∃ r, RowsR l n 0 r ∧ FR h' y r ∧ r.length ≤ 3000 ∧ Keeps h h') := by
  refine acalls_of_W' func17 rfl (by kernel_rfl) (by kernel_rfl) (by simp [ntmps17]) ?_
  intro H
  simp only [wk, wt, wl, ↓reduceIte, Nat.reduceEqDiff, Nat.reduceAdd, Nat.zero_add, not_false_eq_true, not_true_eq_false]
  refine (refRight_ok R hl).use_pure ?_
  simp only [wk, wt, wl, ↓reduceIte, Nat.reduceEqDiff, Nat.reduceAdd, Nat.zero_add, not_false_eq_true, not_true_eq_false, hr, Bool.not_true]
  refine W_loop (fun tm h' => Keeps h h' ∧ tm 0 = v ∧ tm 1 = .int .i64 n ∧ ∃ (i : Int) (ov : Value) (out : List F), tm 6 = .int .i64 i ∧ tm 5 = ov ∧ 0 ≤ i ∧ i ≤ 2199023255552 ∧ OS prog h.size h' 3 cF ov out ∧ (out.length : Int) ≤ i ∧ out.length ≤ 3000 ∧ ∀ r, RowsR l n i r → RowsR l n 0 (out ++ r)) (fun tm _ => (n - intOf (tm 6)).toNat)
    ⟨Keeps.refl H, (by first | rfl | (simp only [wk, wt, wl, ↓reduceIte, Nat.reduceEqDiff, Nat.reduceAdd, Nat.zero_add, not_false_eq_true, not_true_eq_false]; done) | (simp only [wk, wt, wl, ↓reduceIte, Nat.reduceEqDiff, Nat.reduceAdd, Nat.zero_add, not_false_eq_true, not_true_eq_false]; rfl)), (by first | rfl | (simp only [wk, wt, wl, ↓reduceIte, Nat.reduceEqDiff, Nat.reduceAdd, Nat.zero_add, not_false_eq_true, not_true_eq_false]; done) | (simp only [wk, wt, wl, ↓reduceIte, Nat.reduceEqDiff, Nat.reduceAdd, Nat.zero_add, not_false_eq_true, not_true_eq_false]; rfl)), 0, .slice none 0 0, [], (by first | rfl | (simp only [wk, wt, wl, ↓reduceIte, Nat.reduceEqDiff, Nat.reduceAdd, Nat.zero_add, not_false_eq_true, not_true_eq_false]; done) | (simp only [wk, wt, wl, ↓reduceIte, Nat.reduceEqDiff, Nat.reduceAdd, Nat.zero_add, not_false_eq_true, not_true_eq_false]; rfl)), (by first | rfl | (simp only [wk, wt, wl, ↓reduceIte, Nat.reduceEqDiff, Nat.reduceAdd, Nat.zero_add, not_false_eq_true, not_true_eq_false]; done) | (simp only [wk, wt, wl, ↓reduceIte, Nat.reduceEqDiff, Nat.reduceAdd, Nat.zero_add, not_false_eq_true, not_true_eq_false]; rfl)), by omega, by omega, OS.nil, by simp, by simp, fun r g => g⟩ ?_
  rintro tm h' ⟨K, t0, t1, i, ov, out, t6, t5, hi0, hi1, O, hol, ho3, hrow⟩
  have R' : FR h' v l := R.keeps K
  have hsh := shownZ_in hn (x := i) (by omega)
  have hle := shownZ_le (x := i) hn
  have hnx : nextZ1 l i = (shownZ l i).2 + 1 := rfl
  simp only [wk, wt, wl, ↓reduceIte, Nat.reduceEqDiff, Nat.reduceAdd, Nat.zero_add, not_false_eq_true, not_true_eq_false, t0, t1, t5, t6]
  refine condK_dec (fun hd => ?_) (fun hd => ?_)
  · simp (disch := omega) only [wk, wt, wl, ↓reduceIte, Nat.reduceEqDiff, Nat.reduceAdd, Nat.zero_add, not_false_eq_true, not_true_eq_false, t0, t1, t5, t6]
    refine (refNext_ok R' hl hn (by omega)).use_pure ?_
    rw [← hnx]
    simp (disch := omega) only [wk, wt, wl, ↓reduceIte, Nat.reduceEqDiff, Nat.reduceAdd, Nat.zero_add, not_false_eq_true, not_true_eq_false, t0, t1, t5, t6, abuiltin_min]
    generalize hm : (if n < nextZ1 l i then n else nextZ1 l i) = m
    have hmb : m ≤ 3000 ∧ i < m := by rw [← hm]; split <;> omega
    simp (disch := omega) only [wk, wt, wl, ↓reduceIte, Nat.reduceEqDiff, Nat.reduceAdd, Nat.zero_add, not_false_eq_true, not_true_eq_false, t0, t1, t5, t6, IntWalk.i64_in]
    refine (refShut_ok R' hl).use_pure ?_
    simp (disch := omega) only [wk, wt, wl, ↓reduceIte, Nat.reduceEqDiff, Nat.reduceAdd, Nat.zero_add, not_false_eq_true, not_true_eq_false, t0, t1, t5, t6, idxV_ge, build_f3, bsf]
    obtain ⟨v2, h2, e2, O2, C2, R2, _⟩ := O.append1 (P := prog) (Ch.wf K) (Ch.le K) underlying22 elem36 fits36 (by decide) (by decide) ⟨i, m - 1, (shutF l i).isSome⟩ rfl (by omega)
    rw [e2]; clear e2
    have K2 := K.step C2 fun b hb => hb.2
    simp (disch := omega) only [wk, wt, wl, ↓reduceIte, Nat.reduceEqDiff, Nat.reduceAdd, Nat.zero_add, not_false_eq_true, not_true_eq_false, t0, t1, t6]
    refine (refNext_ok (RS.keeps R K2) hl hn (by omega)).use_pure ?_
    rw [← hnx]
    simp (disch := omega) only [wk, wt, wl, ↓reduceIte, Nat.reduceEqDiff, Nat.reduceAdd, Nat.zero_add, not_false_eq_true, not_true_eq_false, t0, t1, intOf_int]
    refine ⟨⟨K2, nextZ1 l i, v2, out ++ [⟨i, m - 1, (shutF l i).isSome⟩], rfl, rfl, by omega, by omega, O2, by simp only [List.length_append, List.length_singleton]; omega, by simp only [List.length_append, List.length_singleton]; omega, fun r g => ?_⟩, by omega⟩
    rw [List.append_assoc]
    have := RowsR.step hd g
    rw [hm] at this
    exact hrow _ this
  · simp only [wk, wt, wl, ↓reduceIte, Nat.reduceEqDiff, Nat.reduceAdd, Nat.zero_add, not_false_eq_true, not_true_eq_false, t5]
    exact ⟨out, by simpa using hrow [] (.done hd), O.rs, ho3, K⟩
end Go.Proofs.Ytgfccaaalkkdlaa.Am
end
section
/- Folds: the rows that are shown: the contract of fold.Rows, by a walk. -/
set_option linter.unusedSimpArgs false
set_option linter.unusedVariables false
set_option maxHeartbeats 4000000
set_option maxRecDepth 20000
namespace Go.Proofs.Ytgfccaaalkkdlaa.Am
open Go Go.RowKit Go.Proofs.Try
theorem shown_gap {l : List F} {x : Int} (h : ∀ (j : Nat) f, l[j]? = some f → f.cl = true → ¬ (f.fr ≤ x ∧ x ≤ f.to)) : shutF l x = none ∧ nextZ1 l x = x + 1 := by
  have hs : shutF l x = none := by
    cases hs : shutF l x with
    | none => rfl
    | some k =>
      obtain ⟨f, hx, h1, h2, h3, _⟩ := shutF_some hs
      exact absurd ⟨h2, h3⟩ (h k f hx h1)
  refine ⟨hs, ?_⟩
  unfold nextZ1 shownZ
  rw [hs]; split <;> rfl
theorem shown_fold {l : List F} (hr : rightB l = true) {k : Nat} {f : F} (hx : l[k]? = some f) (hc : f.cl = true) : shutF l f.fr = some k ∧ nextZ1 l f.fr = f.to + 1 := by
  obtain ⟨r1, r2, _⟩ := rightB_at hr
  have hk := r1 k f hx
  have hin : inF l f.fr = some k := by
    rw [inF_find hr (x := f.fr) (i := k) (fun j g hj hg => r2 j k g f hj hg hx) (fun g hg => by rw [hx] at hg; cases hg; omega), hx]
    simp
  have hs : shutF l f.fr = some k := by simp [shutF, hin, hx, hc]
  refine ⟨hs, ?_⟩
  unfold nextZ1 shownZ
  simp [hr, hs, hx]
theorem rows_ok {v : Value} {l : List F} {n : Int} {h : Heap} (R : FR h v l) (hl : l.length ≤ 9223372036854775807) (hn : nearF l = true) (h3 : n ≤ 3000) (hr : rightB l = true) :
    ACalls prog 16 #[v, .int .i64 n] h (fun y h' => ∃ r, RowsR l n 0 r ∧ FR h' y r ∧ r.length ≤ 3000 ∧ Keeps h h') := by
  obtain ⟨r1, r2, r3⟩ := rightB_at hr
  refine acalls_of_W' func16 rfl (by kernel_rfl) (by kernel_rfl) (by simp [ntmps16]) ?_
  intro H
  simp only [wk, wt, wl, ↓reduceIte, Nat.reduceEqDiff, Nat.reduceAdd, Nat.zero_add, not_false_eq_true, not_true_eq_false]
  refine (right_ok R hl).use ?_
  rintro _ h2 ⟨rfl, K2⟩
  simp only [wk, wt, wl, ↓reduceIte, Nat.reduceEqDiff, Nat.reduceAdd, Nat.zero_add, not_false_eq_true, not_true_eq_false, hr, Bool.not_true]
  refine (clip_ok (RS.keeps R K2)).use ?_
  rintro cv _ ⟨OC, _, rfl⟩
  obtain ⟨mx, hmx⟩ : ∃ mx, mx = (if n < 0 then 0 else n) := ⟨_, rfl⟩
  have hmx1 : 0 ≤ mx ∧ n ≤ mx ∧ mx ≤ 3000 := by rw [hmx]; split <;> omega
  simp only [wk, wt, wl, ↓reduceIte, Nat.reduceEqDiff, Nat.reduceAdd, Nat.zero_add, not_false_eq_true, not_true_eq_false, abuiltin_max, ← hmx, build_f2, bsf]
  obtain ⟨lv, h5, e5, O5, C5, R5, _⟩ := OC.append1 (P := prog) (Ch.wf K2) (Nat.le_refl _) underlying22 elem36 fits36 (by decide) (by decide) ⟨mx, mx, false⟩ rfl (by omega)
  rw [e5]; clear e5
  have K5 := K2.step C5 fun b hb => by have := hb.2; have := Ch.le K2; omega
  have RL := O5.rs
  clear OC C5 R5 O5
  obtain ⟨L, hL⟩ : ∃ L, L = l ++ [⟨mx, mx, false⟩] := ⟨_, rfl⟩
  rw [← hL] at RL
  have hLl : L.length = l.length + 1 := by rw [hL]; simp
  have hget : ∀ (k : Nat) f, L[k]? = some f → (k < l.length ∧ l[k]? = some f) ∨ (k = l.length ∧ f = ⟨mx, mx, false⟩) := fun k f hf => by
    rw [hL] at hf
    rcases Nat.lt_or_ge k l.length with hk | hk
    · rw [List.getElem?_append_left hk] at hf; exact .inl ⟨hk, hf⟩
    · rw [List.getElem?_append_right hk] at hf
      have : k - l.length = 0 := by
        have := (List.getElem?_eq_some_iff.1 hf).1
        simp at this; omega
      rw [this] at hf
      simp at hf
      exact .inr ⟨by omega, hf.symm⟩
  simp only [wk, wt, wl, ↓reduceIte, Nat.reduceEqDiff, Nat.reduceAdd, Nat.zero_add, not_false_eq_true, not_true_eq_false, Rd.len RL underlying22]
  refine W_loop (fun tm h' => Keeps h h' ∧ tm 0 = v ∧ tm 1 = .int .i64 n ∧ tm 20 = lv ∧ tm 21 = .int .i64 L.length ∧ FR h' lv L ∧ ∃ (k : Nat) (i : Int) (ov : Value) (out : List F), tm 22 = .int .i64 k ∧ tm 6 = .int .i64 i ∧ tm 5 = ov ∧ k ≤ l.length ∧ 0 ≤ i ∧ i ≤ 1099511627777 ∧
      OS prog h.size h' 3 cF ov out ∧ (out.length : Int) ≤ i ∧ out.length ≤ 3000 ∧ (∀ (j : Nat) f, j < k → l[j]? = some f → f.cl = true → f.to < i) ∧ (∀ (j : Nat) f, k ≤ j → l[j]? = some f → i ≤ f.fr) ∧ ∀ r, RowsR l n i r → RowsR l n 0 (out ++ r)) (fun tm _ => (L.length - intOf (tm 22)).toNat)
    ⟨K5, (by first | rfl | (simp only [wk, wt, wl, ↓reduceIte, Nat.reduceEqDiff, Nat.reduceAdd, Nat.zero_add, not_false_eq_true, not_true_eq_false]; done) | (simp only [wk, wt, wl, ↓reduceIte, Nat.reduceEqDiff, Nat.reduceAdd, Nat.zero_add, not_false_eq_true, not_true_eq_false]; rfl)), (by first | rfl | (simp only [wk, wt, wl, ↓reduceIte, Nat.reduceEqDiff, Nat.reduceAdd, Nat.zero_add, not_false_eq_true, not_true_eq_false]; done) | (simp only [wk, wt, wl, ↓reduceIte, Nat.reduceEqDiff, Nat.reduceAdd, Nat.zero_add, not_false_eq_true, not_true_eq_false]; rfl)), (by first | rfl | (simp only [wk, wt, wl, ↓reduceIte, Nat.reduceEqDiff, Nat.reduceAdd, Nat.zero_add, not_false_eq_true, not_true_eq_false]; done) | (simp only [wk, wt, wl, ↓reduceIte, Nat.reduceEqDiff, Nat.reduceAdd, Nat.zero_add, not_false_eq_true, not_true_eq_false]; rfl)), (by first | rfl | (simp only [wk, wt, wl, ↓reduceIte, Nat.reduceEqDiff, Nat.reduceAdd, Nat.zero_add, not_false_eq_true, not_true_eq_false]; done) | (simp only [wk, wt, wl, ↓reduceIte, Nat.reduceEqDiff, Nat.reduceAdd, Nat.zero_add, not_false_eq_true, not_true_eq_false]; rfl)), RL, 0, 0, .slice none 0 0, [], (by first | rfl | (simp only [wk, wt, wl, ↓reduceIte, Nat.reduceEqDiff, Nat.reduceAdd, Nat.zero_add, not_false_eq_true, not_true_eq_false]; done) | (simp only [wk, wt, wl, ↓reduceIte, Nat.reduceEqDiff, Nat.reduceAdd, Nat.zero_add, not_false_eq_true, not_true_eq_false]; rfl)), (by first | rfl | (simp only [wk, wt, wl, ↓reduceIte, Nat.reduceEqDiff, Nat.reduceAdd, Nat.zero_add, not_false_eq_true, not_true_eq_false]; done) | (simp only [wk, wt, wl, ↓reduceIte, Nat.reduceEqDiff, Nat.reduceAdd, Nat.zero_add, not_false_eq_true, not_true_eq_false]; rfl)), (by first | rfl | (simp only [wk, wt, wl, ↓reduceIte, Nat.reduceEqDiff, Nat.reduceAdd, Nat.zero_add, not_false_eq_true, not_true_eq_false]; done) | (simp only [wk, wt, wl, ↓reduceIte, Nat.reduceEqDiff, Nat.reduceAdd, Nat.zero_add, not_false_eq_true, not_true_eq_false]; rfl)), by omega, by omega, by omega, OS.nil, by simp, by simp, fun j f hj => by omega, fun j f _ hf => (r1 j f hf).1, fun r g => g⟩ ?_
  clear K5 RL
  rintro tm h' ⟨K, t0, t1, t20, t21, RL, k, i, ov, out, t22, t6, t5, hk, hi0, hi1, O, hol, ho3, inv1, inv2, hrow⟩
  have dk : decide ((k : Int) < L.length) = true := decide_eq_true (by omega)
  have hkL : k < L.length := by omega
  obtain ⟨f, hx⟩ : ∃ f, L[k]? = some f := ⟨L[k], by simp [hkL]⟩
  obtain ⟨F0, F1, F2, F3⟩ := RL.flds hx
  have IX := Rd.index RL underlying22 asz36 (q := .i64) (i := (k : Int)) (by omega) (by omega)
  simp only [Int.toNat_natCast] at IX
  simp (disch := omega) only [wk, wt, wl, ↓reduceIte, Nat.reduceEqDiff, Nat.reduceAdd, Nat.zero_add, not_false_eq_true, not_true_eq_false, t0, t1, t20, t21, t22, t5, t6, dk, IX, F3]
  have K3 := Keeps.new (Ch.wf K) 36 [Value.int IntKind.i64 0, Value.int IntKind.i64 0, Value.bool false]
  have V3 := Var.new (e := 36) (Ch.wf K) (cs := [Value.int IntKind.i64 0, Value.int IntKind.i64 0, Value.bool false])
  obtain ⟨h4, e4, V4, C4, z4⟩ := V3.store (P := prog) (t := 36) (v := .agg #[.int .i64 f.fr, .int .i64 f.to, .bool f.cl]) (i := 0) (Ch.wf K3) asz36 (by simp [Value.cells]) (by simp [Value.cells, one])
  rw [e4]; clear e4
  simp only [Value.cells, over_all (xs := [Value.int IntKind.i64 0, Value.int IntKind.i64 0, Value.bool false]) (vs := [.int .i64 f.fr, .int .i64 f.to, .bool f.cl]) rfl] at V4
  have K14 := K3.step C4 (fun b hb => by omega)
  have K4 := K.trans K14
  have fb : f.to ≤ 1099511627776 ∧ -1099511627776 ≤ f.fr := by
    rcases hget k f hx with ⟨_, hf⟩ | ⟨_, rfl⟩
    · exact nearF_at hn hf
    · simp only; omega
  have W0 := fun {hh : Heap} (V : Var hh h'.size [.int .i64 f.fr, .int .i64 f.to, .bool f.cl]) => V.load1 (P := prog) (t := 3) underlying3 rfl (i := 0)
  have W1 := fun {hh : Heap} (V : Var hh h'.size [.int .i64 f.fr, .int .i64 f.to, .bool f.cl]) => V.load1 (P := prog) (t := 3) underlying3 rfl (i := 1)
  have W2 := fun {hh : Heap} (V : Var hh h'.size [.int .i64 f.fr, .int .i64 f.to, .bool f.cl]) => V.load1 (P := prog) (t := 4) underlying4 rfl (i := 2)
  simp only [List.getElem?_cons_succ, List.getElem?_cons_zero] at W0 W1 W2
  have RL4 : FR h4 lv L := RS.keeps RL K14
  have O4 := O.keeps K14
  have hov : ∀ y, blkOf ov = some y → y ≠ h'.size := fun y hy => by have := (Rd.blk_lt O.1 hy).1; omega
  by_cases hskip : f.cl = false ∧ f.fr < n
  · obtain ⟨hcl, hfn⟩ := hskip
    have d1 : decide (f.fr < n) = true := decide_eq_true hfn
    have W2' := W2 V4
    rw [hcl] at W2'
    simp (disch := omega) only [wk, wt, wl, ↓reduceIte, Nat.reduceEqDiff, Nat.reduceAdd, Nat.zero_add, not_false_eq_true, not_true_eq_false, t0, t1, t20, t21, t22, t5, t6, W0 V4, W2', Bool.not_false, d1, IntWalk.i64_in, intOf_int]
    rcases hget k f hx with ⟨hkl, hf⟩ | ⟨_, rfl⟩
    · refine ⟨⟨K4, RL4, k + 1, i, ov, out, by simp, rfl, rfl, by omega, hi0, hi1, O4, hol, ho3, fun j g hj hg hgc => ?_, fun j g hj hg => inv2 j g (by omega) hg, hrow⟩, by omega⟩
      by_cases e : j = k
      · subst e; rw [hf] at hg; cases hg; rw [hcl] at hgc; cases hgc
      · exact inv1 j g (by omega) hg hgc
    · simp only at hfn; omega
  · have cond8 : (∃ b, f.cl = b ∧ (b = true ∨ (b = false ∧ decide (f.fr < n) = false))) := by
      cases hcl : f.cl with
      | true => exact ⟨true, rfl, .inl rfl⟩
      | false => exact ⟨false, rfl, .inr ⟨rfl, decide_eq_false fun e => hskip ⟨hcl, e⟩⟩⟩
    obtain ⟨bc, hbc, hcase⟩ := cond8
    have W2' := W2 V4
    rw [hbc] at W2'
    rcases hcase with rfl | ⟨rfl, d1⟩
    · simp (disch := omega) only [wk, wt, wl, ↓reduceIte, Nat.reduceEqDiff, Nat.reduceAdd, Nat.zero_add, not_false_eq_true, not_true_eq_false, t0, t1, t20, t21, t22, t5, t6, W0 V4, W2', Bool.not_true]
      refine W_loop (fun tm hh => Keeps h hh ∧ tm 0 = v ∧ tm 1 = .int .i64 n ∧ tm 20 = lv ∧ tm 21 = .int .i64 L.length ∧ tm 22 = .int .i64 k ∧ tm 8 = .pointer (some ⟨h'.size, 0, none⟩) ∧ FR hh lv L ∧ Var hh h'.size [.int .i64 f.fr, .int .i64 f.to, .bool f.cl] ∧ ∃ (x : Int) (ov : Value) (out : List F), tm 6 = .int .i64 x ∧ tm 5 = ov ∧ i ≤ x ∧ (x ≤ f.fr ∨ x = i) ∧ x ≤ 1099511627777 ∧
          OS prog h.size hh 3 cF ov out ∧ (∀ y, blkOf ov = some y → y ≠ h'.size) ∧ (out.length : Int) ≤ x ∧ out.length ≤ 3000 ∧ ∀ r, RowsR l n x r → RowsR l n 0 (out ++ r)) (fun tm _ => (f.fr - intOf (tm 6)).toNat)
        ⟨K4, (by first | rfl | (simp only [wk, wt, wl, ↓reduceIte, Nat.reduceEqDiff, Nat.reduceAdd, Nat.zero_add, not_false_eq_true, not_true_eq_false]; done) | (simp only [wk, wt, wl, ↓reduceIte, Nat.reduceEqDiff, Nat.reduceAdd, Nat.zero_add, not_false_eq_true, not_true_eq_false]; rfl) | (simp only [wk, wt, wl, ↓reduceIte, Nat.reduceEqDiff, Nat.reduceAdd, Nat.zero_add, not_false_eq_true, not_true_eq_false, t0]; done) | (simp only [wk, wt, wl, ↓reduceIte, Nat.reduceEqDiff, Nat.reduceAdd, Nat.zero_add, not_false_eq_true, not_true_eq_false, t0]; rfl)), (by first | rfl | (simp only [wk, wt, wl, ↓reduceIte, Nat.reduceEqDiff, Nat.reduceAdd, Nat.zero_add, not_false_eq_true, not_true_eq_false]; done) | (simp only [wk, wt, wl, ↓reduceIte, Nat.reduceEqDiff, Nat.reduceAdd, Nat.zero_add, not_false_eq_true, not_true_eq_false]; rfl) | (simp only [wk, wt, wl, ↓reduceIte, Nat.reduceEqDiff, Nat.reduceAdd, Nat.zero_add, not_false_eq_true, not_true_eq_false, t1]; done) | (simp only [wk, wt, wl, ↓reduceIte, Nat.reduceEqDiff, Nat.reduceAdd, Nat.zero_add, not_false_eq_true, not_true_eq_false, t1]; rfl)), (by first | rfl | (simp only [wk, wt, wl, ↓reduceIte, Nat.reduceEqDiff, Nat.reduceAdd, Nat.zero_add, not_false_eq_true, not_true_eq_false]; done) | (simp only [wk, wt, wl, ↓reduceIte, Nat.reduceEqDiff, Nat.reduceAdd, Nat.zero_add, not_false_eq_true, not_true_eq_false]; rfl) | (simp only [wk, wt, wl, ↓reduceIte, Nat.reduceEqDiff, Nat.reduceAdd, Nat.zero_add, not_false_eq_true, not_true_eq_false, t20]; done) | (simp only [wk, wt, wl, ↓reduceIte, Nat.reduceEqDiff, Nat.reduceAdd, Nat.zero_add, not_false_eq_true, not_true_eq_false, t20]; rfl)), (by first | rfl | (simp only [wk, wt, wl, ↓reduceIte, Nat.reduceEqDiff, Nat.reduceAdd, Nat.zero_add, not_false_eq_true, not_true_eq_false]; done) | (simp only [wk, wt, wl, ↓reduceIte, Nat.reduceEqDiff, Nat.reduceAdd, Nat.zero_add, not_false_eq_true, not_true_eq_false]; rfl) | (simp only [wk, wt, wl, ↓reduceIte, Nat.reduceEqDiff, Nat.reduceAdd, Nat.zero_add, not_false_eq_true, not_true_eq_false, t21]; done) | (simp only [wk, wt, wl, ↓reduceIte, Nat.reduceEqDiff, Nat.reduceAdd, Nat.zero_add, not_false_eq_true, not_true_eq_false, t21]; rfl)), (by first | rfl | (simp only [wk, wt, wl, ↓reduceIte, Nat.reduceEqDiff, Nat.reduceAdd, Nat.zero_add, not_false_eq_true, not_true_eq_false]; done) | (simp only [wk, wt, wl, ↓reduceIte, Nat.reduceEqDiff, Nat.reduceAdd, Nat.zero_add, not_false_eq_true, not_true_eq_false]; rfl) | (simp only [wk, wt, wl, ↓reduceIte, Nat.reduceEqDiff, Nat.reduceAdd, Nat.zero_add, not_false_eq_true, not_true_eq_false, t22]; done) | (simp only [wk, wt, wl, ↓reduceIte, Nat.reduceEqDiff, Nat.reduceAdd, Nat.zero_add, not_false_eq_true, not_true_eq_false, t22]; rfl)), (by first | rfl | (simp only [wk, wt, wl, ↓reduceIte, Nat.reduceEqDiff, Nat.reduceAdd, Nat.zero_add, not_false_eq_true, not_true_eq_false]; done) | (simp only [wk, wt, wl, ↓reduceIte, Nat.reduceEqDiff, Nat.reduceAdd, Nat.zero_add, not_false_eq_true, not_true_eq_false]; rfl)), RL4, V4, i, ov, out, (by first | rfl | (simp only [wk, wt, wl, ↓reduceIte, Nat.reduceEqDiff, Nat.reduceAdd, Nat.zero_add, not_false_eq_true, not_true_eq_false]; done) | (simp only [wk, wt, wl, ↓reduceIte, Nat.reduceEqDiff, Nat.reduceAdd, Nat.zero_add, not_false_eq_true, not_true_eq_false]; rfl) | (simp only [wk, wt, wl, ↓reduceIte, Nat.reduceEqDiff, Nat.reduceAdd, Nat.zero_add, not_false_eq_true, not_true_eq_false, t6]; done) | (simp only [wk, wt, wl, ↓reduceIte, Nat.reduceEqDiff, Nat.reduceAdd, Nat.zero_add, not_false_eq_true, not_true_eq_false, t6]; rfl)), (by first | rfl | (simp only [wk, wt, wl, ↓reduceIte, Nat.reduceEqDiff, Nat.reduceAdd, Nat.zero_add, not_false_eq_true, not_true_eq_false]; done) | (simp only [wk, wt, wl, ↓reduceIte, Nat.reduceEqDiff, Nat.reduceAdd, Nat.zero_add, not_false_eq_true, not_true_eq_false]; rfl) | (simp only [wk, wt, wl, ↓reduceIte, Nat.reduceEqDiff, Nat.reduceAdd, Nat.zero_add, not_false_eq_true, not_true_eq_false, t5]; done) | (simp only [wk, wt, wl, ↓reduceIte, Nat.reduceEqDiff, Nat.reduceAdd, Nat.zero_add, not_false_eq_true, not_true_eq_false, t5]; rfl)), by omega, .inr rfl, by omega, O4, hov, hol, ho3, hrow⟩ ?_
      clear K4 RL4 V4 O4 hov hol ho3 hrow O W2' C4 K14 V3 K3
      rintro tm hh ⟨K, t0, t1, t20, t21, t22, t8, RL, V, x, ov, out, t6, t5, hix, hxf, hxb, O, hov, hol, ho3, hrow⟩
      simp (disch := omega) only [wk, wt, wl, ↓reduceIte, Nat.reduceEqDiff, Nat.reduceAdd, Nat.zero_add, not_false_eq_true, not_true_eq_false, t0, t1, t20, t21, t22, t8, t5, t6, W0 V]
      refine condK_dec (fun hd => ?_) (fun hd => ?_)
      · simp (disch := omega) only [wk, wt, wl, ↓reduceIte, Nat.reduceEqDiff, Nat.reduceAdd, Nat.zero_add, not_false_eq_true, not_true_eq_false, t0, t1, t20, t21, t22, t8, t5, t6]
        refine condK_dec (fun hc => ?_) (fun hc => ?_)
        · simp (disch := omega) only [wk, wt, wl, ↓reduceIte, Nat.reduceEqDiff, Nat.reduceAdd, Nat.zero_add, not_false_eq_true, not_true_eq_false, t5]
          exact ⟨out, by simpa using hrow [] (.done (by omega)), O.rs, ho3, K⟩
        · have hgap := shown_gap (l := l) (x := x) fun j g hg hgc => by
            rcases Nat.lt_or_ge j k with hj | hj
            · have := inv1 j g hj hg hgc; omega
            · rcases hget k f hx with ⟨_, hf⟩ | ⟨hke, _⟩
              · rcases Nat.lt_or_eq_of_le hj with hj | rfl
                · have := r2 k j f g hj hf hg; have := r1 k f hf; omega
                · rw [hf] at hg; cases hg; omega
              · have := (List.getElem?_eq_some_iff.1 hg).1; omega
          simp (disch := omega) only [wk, wt, wl, ↓reduceIte, Nat.reduceEqDiff, Nat.reduceAdd, Nat.zero_add, not_false_eq_true, not_true_eq_false, t0, t1, t20, t21, t22, t8, t5, t6, build_f2, bsf]
          obtain ⟨v2, h2, e2, O2, C2, R2, ev2⟩ := O.append1 (P := prog) (Ch.wf K) (Ch.le K) underlying22 elem36 fits36 (by decide) (by decide) ⟨x, x, false⟩ rfl (by omega)
          rw [e2]; clear e2
          have KK := K.step C2 fun b hb => hb.2
          have V2 := Ch.var (Ch.wf K) C2 V fun e => hov _ e.1 rfl
          have hlt := V.lt (Ch.wf K)
          simp (disch := omega) only [wk, wt, wl, ↓reduceIte, Nat.reduceEqDiff, Nat.reduceAdd, Nat.zero_add, not_false_eq_true, not_true_eq_false, t0, t1, t20, t21, t22, t8, t6, IntWalk.i64_in, intOf_int]
          refine ⟨⟨KK, Rd.reads RL C2.le R2, V2, x + 1, v2, out ++ [⟨x, x, false⟩], rfl, rfl, by omega, by omega, by omega, O2, fun y hy => ?_, by simp only [List.length_append, List.length_singleton]; omega, by simp only [List.length_append, List.length_singleton]; omega, fun r g => ?_⟩, by omega⟩
          · rw [ev2] at hy; simp only [blkOf, Option.some.injEq] at hy; omega
          · rw [List.append_assoc]
            have st := RowsR.step (l := l) (n := n) (i := x) (by omega) (by rw [hgap.2]; exact g)
            rw [hgap.1, hgap.2, if_neg (by omega)] at st
            have e : x + 1 - 1 = x := by omega
            rw [e] at st
            exact hrow _ st
      · simp (disch := omega) only [wk, wt, wl, ↓reduceIte, Nat.reduceEqDiff, Nat.reduceAdd, Nat.zero_add, not_false_eq_true, not_true_eq_false, t0, t1, t20, t21, t22, t8, t5, t6]
        refine condK_dec (fun hc => ?_) (fun hc => ?_)
        · simp (disch := omega) only [wk, wt, wl, ↓reduceIte, Nat.reduceEqDiff, Nat.reduceAdd, Nat.zero_add, not_false_eq_true, not_true_eq_false, t5]
          exact ⟨out, by simpa using hrow [] (.done (by omega)), O.rs, ho3, K⟩
        · obtain ⟨hf, hxe, hcl⟩ : l[k]? = some f ∧ x = f.fr ∧ f.cl = true := by
            rcases hget k f hx with ⟨_, hf⟩ | ⟨_, rfl⟩
            · have := inv2 k f (Nat.le_refl _) hf
              refine ⟨hf, by omega, ?_⟩
              cases hcl : f.cl with
              | true => rfl
              | false => exact absurd ⟨hcl, by omega⟩ hskip
            · exfalso; simp only at hxf hd hix; omega
          have hkl := (List.getElem?_eq_some_iff.1 hf).1
          have hff := r1 k f hf
          have hsf := shown_fold hr hf hcl
          obtain ⟨m, hm⟩ : ∃ m, m = (if n - 1 < f.to then n - 1 else f.to) := ⟨_, rfl⟩
          simp (disch := omega) only [wk, wt, wl, ↓reduceIte, Nat.reduceEqDiff, Nat.reduceAdd, Nat.zero_add, not_false_eq_true, not_true_eq_false, t0, t1, t20, t21, t22, t8, t5, t6, W1 V, IntWalk.i64_in, abuiltin_min, ← hm, build_f3, bsf]
          obtain ⟨v2, h2, e2, O2, C2, R2, ev2⟩ := O.append1 (P := prog) (Ch.wf K) (Ch.le K) underlying22 elem36 fits36 (by decide) (by decide) ⟨x, m, true⟩ rfl (by omega)
          rw [e2]; clear e2
          have KK := K.step C2 fun b hb => hb.2
          have V2 := Ch.var (Ch.wf K) C2 V fun e => hov _ e.1 rfl
          simp (disch := omega) only [wk, wt, wl, ↓reduceIte, Nat.reduceEqDiff, Nat.reduceAdd, Nat.zero_add, not_false_eq_true, not_true_eq_false, t0, t1, t20, t21, t22, t8, t6, W1 V2, IntWalk.i64_in, intOf_int]
          refine ⟨⟨KK, Rd.reads RL C2.le R2, k + 1, f.to + 1, v2, out ++ [⟨x, m, true⟩], by simp, rfl, rfl, by omega, by omega, by omega, O2, by simp only [List.length_append, List.length_singleton]; omega, by simp only [List.length_append, List.length_singleton]; omega, fun j g hj hg hgc => ?_, fun j g hj hg => by have := r2 k j f g (by omega) hf hg; omega, fun r g => ?_⟩, by omega⟩
          · by_cases e : j = k
            · subst e; rw [hf] at hg; cases hg; omega
            · have := inv1 j g (by omega) hg hgc; omega
          · rw [List.append_assoc]
            have st := RowsR.step (l := l) (n := n) (i := f.fr) (by omega) (by rw [hsf.2]; exact g)
            rw [hsf.1, hsf.2] at st
            have e : (if n < f.to + 1 then n else f.to + 1) - 1 = m := by rw [hm]; split <;> split <;> omega
            rw [e] at st
            rw [hxe] at hrow ⊢
            exact hrow _ st
    · simp (disch := omega) only [wk, wt, wl, ↓reduceIte, Nat.reduceEqDiff, Nat.reduceAdd, Nat.zero_add, not_false_eq_true, not_true_eq_false, t0, t1, t20, t21, t22, t5, t6, W0 V4, W2', Bool.not_false, d1]
      refine W_loop (fun tm hh => Keeps h hh ∧ tm 0 = v ∧ tm 1 = .int .i64 n ∧ tm 20 = lv ∧ tm 21 = .int .i64 L.length ∧ tm 22 = .int .i64 k ∧ tm 8 = .pointer (some ⟨h'.size, 0, none⟩) ∧ FR hh lv L ∧ Var hh h'.size [.int .i64 f.fr, .int .i64 f.to, .bool f.cl] ∧ ∃ (x : Int) (ov : Value) (out : List F), tm 6 = .int .i64 x ∧ tm 5 = ov ∧ i ≤ x ∧ (x ≤ f.fr ∨ x = i) ∧ x ≤ 1099511627777 ∧
          OS prog h.size hh 3 cF ov out ∧ (∀ y, blkOf ov = some y → y ≠ h'.size) ∧ (out.length : Int) ≤ x ∧ out.length ≤ 3000 ∧ ∀ r, RowsR l n x r → RowsR l n 0 (out ++ r)) (fun tm _ => (f.fr - intOf (tm 6)).toNat)
        ⟨K4, (by first | rfl | (simp only [wk, wt, wl, ↓reduceIte, Nat.reduceEqDiff, Nat.reduceAdd, Nat.zero_add, not_false_eq_true, not_true_eq_false]; done) | (simp only [wk, wt, wl, ↓reduceIte, Nat.reduceEqDiff, Nat.reduceAdd, Nat.zero_add, not_false_eq_true, not_true_eq_false]; rfl) | (simp only [wk, wt, wl, ↓reduceIte, Nat.reduceEqDiff, Nat.reduceAdd, Nat.zero_add, not_false_eq_true, not_true_eq_false, t0]; done) | (simp only [wk, wt, wl, ↓reduceIte, Nat.reduceEqDiff, Nat.reduceAdd, Nat.zero_add, not_false_eq_true, not_true_eq_false, t0]; rfl)), (by first | rfl | (simp only [wk, wt, wl, ↓reduceIte, Nat.reduceEqDiff, Nat.reduceAdd, Nat.zero_add, not_false_eq_true, not_true_eq_false]; done) | (simp only [wk, wt, wl, ↓reduceIte, Nat.reduceEqDiff, Nat.reduceAdd, Nat.zero_add, not_false_eq_true, not_true_eq_false]; rfl) | (simp only [wk, wt, wl, ↓reduceIte, Nat.reduceEqDiff, Nat.reduceAdd, Nat.zero_add, not_false_eq_true, not_true_eq_false, t1]; done) | (simp only [wk, wt, wl, ↓reduceIte, Nat.reduceEqDiff, Nat.reduceAdd, Nat.zero_add, not_false_eq_true, not_true_eq_false, t1]; rfl)), (by first | rfl | (simp only [wk, wt, wl, ↓reduceIte, Nat.reduceEqDiff, Nat.reduceAdd, Nat.zero_add, not_false_eq_true, not_true_eq_false]; done) | (simp only [wk, wt, wl, ↓reduceIte, Nat.reduceEqDiff, Nat.reduceAdd, Nat.zero_add, not_false_eq_true, not_true_eq_false]; rfl) | (simp only [wk, wt, wl, ↓reduceIte, Nat.reduceEqDiff, Nat.reduceAdd, Nat.zero_add, not_false_eq_true, not_true_eq_false, t20]; done) | (simp only [wk, wt, wl, ↓reduceIte, Nat.reduceEqDiff, Nat.reduceAdd, Nat.zero_add, not_false_eq_true, not_true_eq_false, t20]; rfl)), (by first | rfl | (simp only [wk, wt, wl, ↓reduceIte, Nat.reduceEqDiff, Nat.reduceAdd, Nat.zero_add, not_false_eq_true, not_true_eq_false]; done) | (simp only [wk, wt, wl, ↓reduceIte, Nat.reduceEqDiff, Nat.reduceAdd, Nat.zero_add, not_false_eq_true, not_true_eq_false]; rfl) | (simp only [wk, wt, wl, ↓reduceIte, Nat.reduceEqDiff, Nat.reduceAdd, Nat.zero_add, not_false_eq_true, not_true_eq_false, t21]; done) | (simp only [wk, wt, wl, ↓reduceIte, Nat.reduceEqDiff, Nat.reduceAdd, Nat.zero_add, not_false_eq_true, not_true_eq_false, t21]; rfl)), (by first | rfl | (simp only [wk, wt, wl, ↓reduceIte, Nat.reduceEqDiff, Nat.reduceAdd, Nat.zero_add, not_false_eq_true, not_true_eq_false]; done) | (simp only [wk, wt, wl, ↓reduceIte, Nat.reduceEqDiff, Nat.reduceAdd, Nat.zero_add, not_false_eq_true, not_true_eq_false]; rfl) | (simp only [wk, wt, wl, ↓reduceIte, Nat.reduceEqDiff, Nat.reduceAdd, Nat.zero_add, not_false_eq_true, not_true_eq_false, t22]; done) | (simp only [wk, wt, wl, ↓reduceIte, Nat.reduceEqDiff, Nat.reduceAdd, Nat.zero_add, not_false_eq_true, not_true_eq_false, t22]; rfl)), (by first | rfl | (simp only [wk, wt, wl, ↓reduceIte, Nat.reduceEqDiff, Nat.reduceAdd, Nat.zero_add, not_false_eq_true, not_true_eq_false]; done) | (simp only [wk, wt, wl, ↓reduceIte, Nat.reduceEqDiff, Nat.reduceAdd, Nat.zero_add, not_false_eq_true, not_true_eq_false]; rfl)), RL4, V4, i, ov, out, (by first | rfl | (simp only [wk, wt, wl, ↓reduceIte, Nat.reduceEqDiff, Nat.reduceAdd, Nat.zero_add, not_false_eq_true, not_true_eq_false]; done) | (simp only [wk, wt, wl, ↓reduceIte, Nat.reduceEqDiff, Nat.reduceAdd, Nat.zero_add, not_false_eq_true, not_true_eq_false]; rfl) | (simp only [wk, wt, wl, ↓reduceIte, Nat.reduceEqDiff, Nat.reduceAdd, Nat.zero_add, not_false_eq_true, not_true_eq_false, t6]; done) | (simp only [wk, wt, wl, ↓reduceIte, Nat.reduceEqDiff, Nat.reduceAdd, Nat.zero_add, not_false_eq_true, not_true_eq_false, t6]; rfl)), (by first | rfl | (simp only [wk, wt, wl, ↓reduceIte, Nat.reduceEqDiff, Nat.reduceAdd, Nat.zero_add, not_false_eq_true, not_true_eq_false]; done) | (simp only [wk, wt, wl, ↓reduceIte, Nat.reduceEqDiff, Nat.reduceAdd, Nat.zero_add, not_false_eq_true, not_true_eq_false]; rfl) | (simp only [wk, wt, wl, ↓reduceIte, Nat.reduceEqDiff, Nat.reduceAdd, Nat.zero_add, not_false_eq_true, not_true_eq_false, t5]; done) | (simp only [wk, wt, wl, ↓reduceIte, Nat.reduceEqDiff, Nat.reduceAdd, Nat.zero_add, not_false_eq_true, not_true_eq_false, t5]; rfl)), by omega, .inr rfl, by omega, O4, hov, hol, ho3, hrow⟩ ?_
      clear K4 RL4 V4 O4 hov hol ho3 hrow O W2' C4 K14 V3 K3
      rintro tm hh ⟨K, t0, t1, t20, t21, t22, t8, RL, V, x, ov, out, t6, t5, hix, hxf, hxb, O, hov, hol, ho3, hrow⟩
      simp (disch := omega) only [wk, wt, wl, ↓reduceIte, Nat.reduceEqDiff, Nat.reduceAdd, Nat.zero_add, not_false_eq_true, not_true_eq_false, t0, t1, t20, t21, t22, t8, t5, t6, W0 V]
      refine condK_dec (fun hd => ?_) (fun hd => ?_)
      · simp (disch := omega) only [wk, wt, wl, ↓reduceIte, Nat.reduceEqDiff, Nat.reduceAdd, Nat.zero_add, not_false_eq_true, not_true_eq_false, t0, t1, t20, t21, t22, t8, t5, t6]
        refine condK_dec (fun hc => ?_) (fun hc => ?_)
        · simp (disch := omega) only [wk, wt, wl, ↓reduceIte, Nat.reduceEqDiff, Nat.reduceAdd, Nat.zero_add, not_false_eq_true, not_true_eq_false, t5]
          exact ⟨out, by simpa using hrow [] (.done (by omega)), O.rs, ho3, K⟩
        · have hgap := shown_gap (l := l) (x := x) fun j g hg hgc => by
            rcases Nat.lt_or_ge j k with hj | hj
            · have := inv1 j g hj hg hgc; omega
            · rcases hget k f hx with ⟨_, hf⟩ | ⟨hke, _⟩
              · rcases Nat.lt_or_eq_of_le hj with hj | rfl
                · have := r2 k j f g hj hf hg; have := r1 k f hf; omega
                · rw [hf] at hg; cases hg; omega
              · have := (List.getElem?_eq_some_iff.1 hg).1; omega
          simp (disch := omega) only [wk, wt, wl, ↓reduceIte, Nat.reduceEqDiff, Nat.reduceAdd, Nat.zero_add, not_false_eq_true, not_true_eq_false, t0, t1, t20, t21, t22, t8, t5, t6, build_f2, bsf]
          obtain ⟨v2, h2, e2, O2, C2, R2, ev2⟩ := O.append1 (P := prog) (Ch.wf K) (Ch.le K) underlying22 elem36 fits36 (by decide) (by decide) ⟨x, x, false⟩ rfl (by omega)
          rw [e2]; clear e2
          have KK := K.step C2 fun b hb => hb.2
          have V2 := Ch.var (Ch.wf K) C2 V fun e => hov _ e.1 rfl
          have hlt := V.lt (Ch.wf K)
          simp (disch := omega) only [wk, wt, wl, ↓reduceIte, Nat.reduceEqDiff, Nat.reduceAdd, Nat.zero_add, not_false_eq_true, not_true_eq_false, t0, t1, t20, t21, t22, t8, t6, IntWalk.i64_in, intOf_int]
          refine ⟨⟨KK, Rd.reads RL C2.le R2, V2, x + 1, v2, out ++ [⟨x, x, false⟩], rfl, rfl, by omega, by omega, by omega, O2, fun y hy => ?_, by simp only [List.length_append, List.length_singleton]; omega, by simp only [List.length_append, List.length_singleton]; omega, fun r g => ?_⟩, by omega⟩
          · rw [ev2] at hy; simp only [blkOf, Option.some.injEq] at hy; omega
          · rw [List.append_assoc]
            have st := RowsR.step (l := l) (n := n) (i := x) (by omega) (by rw [hgap.2]; exact g)
            rw [hgap.1, hgap.2, if_neg (by omega)] at st
            have e : x + 1 - 1 = x := by omega
            rw [e] at st
            exact hrow _ st
      · simp (disch := omega) only [wk, wt, wl, ↓reduceIte, Nat.reduceEqDiff, Nat.reduceAdd, Nat.zero_add, not_false_eq_true, not_true_eq_false, t0, t1, t20, t21, t22, t8, t5, t6]
        refine condK_dec (fun hc => ?_) (fun hc => ?_)
        · simp (disch := omega) only [wk, wt, wl, ↓reduceIte, Nat.reduceEqDiff, Nat.reduceAdd, Nat.zero_add, not_false_eq_true, not_true_eq_false, t5]
          exact ⟨out, by simpa using hrow [] (.done (by omega)), O.rs, ho3, K⟩
        · obtain ⟨hf, hxe, hcl⟩ : l[k]? = some f ∧ x = f.fr ∧ f.cl = true := by
            rcases hget k f hx with ⟨_, hf⟩ | ⟨_, rfl⟩
            · have := inv2 k f (Nat.le_refl _) hf
              refine ⟨hf, by omega, ?_⟩
              cases hcl : f.cl with
              | true => rfl
              | false => exact absurd ⟨hcl, by omega⟩ hskip
            · exfalso; simp only at hxf hd hix; omega
          have hkl := (List.getElem?_eq_some_iff.1 hf).1
          have hff := r1 k f hf
          have hsf := shown_fold hr hf hcl
          obtain ⟨m, hm⟩ : ∃ m, m = (if n - 1 < f.to then n - 1 else f.to) := ⟨_, rfl⟩
          simp (disch := omega) only [wk, wt, wl, ↓reduceIte, Nat.reduceEqDiff, Nat.reduceAdd, Nat.zero_add, not_false_eq_true, not_true_eq_false, t0, t1, t20, t21, t22, t8, t5, t6, W1 V, IntWalk.i64_in, abuiltin_min, ← hm, build_f3, bsf]
          obtain ⟨v2, h2, e2, O2, C2, R2, ev2⟩ := O.append1 (P := prog) (Ch.wf K) (Ch.le K) underlying22 elem36 fits36 (by decide) (by decide) ⟨x, m, true⟩ rfl (by omega)
          rw [e2]; clear e2
          have KK := K.step C2 fun b hb => hb.2
          have V2 := Ch.var (Ch.wf K) C2 V fun e => hov _ e.1 rfl
          simp (disch := omega) only [wk, wt, wl, ↓reduceIte, Nat.reduceEqDiff, Nat.reduceAdd, Nat.zero_add, not_false_eq_true, not_true_eq_false, t0, t1, t20, t21, t22, t8, t6, W1 V2, IntWalk.i64_in, intOf_int]
          refine ⟨⟨KK, Rd.reads RL C2.le R2, k + 1, f.to + 1, v2, out ++ [⟨x, m, true⟩], by simp, rfl, rfl, by omega, by omega, by omega, O2, by simp only [List.length_append, List.length_singleton]; omega, by simp only [List.length_append, List.length_singleton]; omega, fun j g hj hg hgc => ?_, fun j g hj hg => by have := r2 k j f g (by omega) hf hg; omega, fun r g => ?_⟩, by omega⟩
          · by_cases e : j = k
            · subst e; rw [hf] at hg; cases hg; omega
            · have := inv1 j g (by omega) hg hgc; omega
          · rw [List.append_assoc]
            have st := RowsR.step (l := l) (n := n) (i := f.fr) (by omega) (by rw [hsf.2]; exact g)
            rw [hsf.1, hsf.2] at st
            have e : (if n < f.to + 1 then n else f.to + 1) - 1 = m := by rw [hm]; split <;> split <;> omega
            rw [e] at st
            rw [hxe] at hrow ⊢
            exact hrow _ st
end Go.Proofs.Ytgfccaaalkkdlaa.Am
end
section
/- Folds behind a change: the contract of fold.Adjust, by a walk. -/
set_option linter.unusedSimpArgs false
set_option linter.unusedVariables false
set_option maxHeartbeats 4000000
set_option maxRecDepth 20000
namespace Go.Proofs.Ytgfccaaalkkdlaa.Am
open Go Go.RowKit Go.Proofs.Try
def keepF (fr to : Int) (cl : Bool) : Option F := if fr < to then some ⟨fr, to, cl⟩ else none
/-- What a change (from line c on, o lines ahead of it, n behind it) leaves of a fold. -/
def adjF (c o n : Int) (f : F) : Option F :=
  if f.to < c then keepF f.fr f.to f.cl
  else if f.fr < c then (if c + o ≤ f.to then keepF f.fr (f.to + (n - o)) f.cl else keepF f.fr (c - 1) f.cl)
  else if f.fr < c + o then (if c + o ≤ f.to then keepF (c + n) (f.to + (n - o)) f.cl else none)
  else keepF (f.fr + (n - o)) (f.to + (n - o)) f.cl
theorem adj_next {c o n : Int} {l : List F} {i : Nat} {f : F} (hx : l[i]? = some f) {out : List F} (h : out ++ (l.drop i).filterMap (adjF c o n) = l.filterMap (adjF c o n)) :
    (adjF c o n f = none → out ++ (l.drop (i + 1)).filterMap (adjF c o n) = l.filterMap (adjF c o n)) ∧ ∀ g, adjF c o n f = some g → (out ++ [g]) ++ (l.drop (i + 1)).filterMap (adjF c o n) = l.filterMap (adjF c o n) := by
  rw [dropAt hx] at h
  refine ⟨fun e => ?_, fun g e => ?_⟩
  · rw [← h]; simp [e]
  · rw [← h]; simp [e]
def chV (c : Int) (ov nv : Value) : Value := .agg #[.int .i64 c, ov, nv]
theorem adjust_ok {v ov nv : Value} {l : List F} {c : Int} {o n : Nat} {h : Heap} (R : FR h v l) (hr : rightB l = true) (hn : nearF l = true) (hc : 0 ≤ c ∧ c ≤ 1099511627776) (ho : o ≤ 1000000000) (hnn : n ≤ 1000000000)
    (LO : abuiltin prog .len #[29] #[ov] = some (.int .i64 o)) (LN : abuiltin prog .len #[29] #[nv] = some (.int .i64 n)) (oo : one ov = true) (on : one nv = true) :
    ACalls prog 19 #[v, chV c ov nv] h (fun y h' => FR h' y (l.filterMap (adjF c o n)) ∧ Keeps h h') := by
  obtain ⟨r1, r2, r3⟩ := rightB_at hr
  refine acalls_of_W' func19 rfl (by kernel_rfl) (by kernel_rfl) (by simp [ntmps19]) ?_
  intro H
  have K0 := Keeps.new H 31 [.int .i64 c, ov, nv]
  have V0 := Var.new (e := 31) H (cs := [.int .i64 c, ov, nv])
  have hb : ∀ tm : Tm, tm 1 = chV c ov nv → aeff prog tm h (.box 31 (.tmp 1)) = some (.pointer (some ⟨h.size, 0, none⟩), h.new 31 [.int .i64 c, ov, nv]) := fun tm ht => box_new (by simp [ev, ht, chV, Value.cells]) ⟨_, asz31⟩ (by show (Value.cells (tm 1)).all one = true; rw [ht]; simp [chV, Value.cells, one_int, oo, on])
  simp only [wk, wt, wl, ↓reduceIte, Nat.reduceEqDiff, Nat.reduceAdd, Nat.zero_add, not_false_eq_true, not_true_eq_false, hb (atm #[v, chV c ov nv]) rfl]
  refine (right_ok (RS.keeps R K0) (by omega)).use ?_
  rintro _ h2 ⟨rfl, K2⟩
  have K02 := K0.trans K2
  have V2 := Keeps.var (Ch.wf K0) K2 V0
  have WC := fun {hh : Heap} (V : Var hh h.size [.int .i64 c, ov, nv]) => V.load1 (P := prog) (t := 3) underlying3 rfl (i := 0)
  have WO := fun {hh : Heap} (V : Var hh h.size [.int .i64 c, ov, nv]) => V.load1 (P := prog) (t := 29) underlying29 rfl (i := 1)
  have WN := fun {hh : Heap} (V : Var hh h.size [.int .i64 c, ov, nv]) => V.load1 (P := prog) (t := 29) underlying29 rfl (i := 2)
  simp only [List.getElem?_cons_succ, List.getElem?_cons_zero] at WC WO WN
  simp (disch := omega) only [wk, wt, wl, ↓reduceIte, Nat.reduceEqDiff, Nat.reduceAdd, Nat.zero_add, not_false_eq_true, not_true_eq_false, hr, Bool.not_true]
  refine adraw_order [(0, false), (1, false), (2, false), (3, false), (4, false), (5, false), (6, false), (7, false), (8, false), (9, false), (10, false), (11, false), (12, false), (13, false), (14, false)] mixed (by kernel_rfl) (by kernel_rfl) (by kernel_rfl) (by with_reducible repeat (first | exact PF_retK | refine PF_thenK ?_ | refine PF_blockK ?_)) ?_
  simp (disch := omega) only [wk, wt, wl, ↓reduceIte, Nat.reduceEqDiff, Nat.reduceAdd, Nat.zero_add, not_false_eq_true, not_true_eq_false, dK_t, WC V2, WO V2, WN V2, LO, LN, IntWalk.i64_in]
  repeat (refine ⟨Reads.refl _, ?_⟩)
  have R2 : FR h2 v l := RS.keeps R K02
  simp (disch := omega) only [wk, wt, wl, ↓reduceIte, Nat.reduceEqDiff, Nat.reduceAdd, Nat.zero_add, not_false_eq_true, not_true_eq_false, R2.len underlying22]
  refine W_loop (fun tm h' => Keeps h h' ∧ tm 0 = v ∧ tm 3 = .pointer (some ⟨h.size, 0, none⟩) ∧ tm 5 = .int .i64 (c + o) ∧ tm 6 = .int .i64 ((n : Int) - o) ∧ tm 28 = v ∧ tm 29 = .int .i64 l.length ∧ Var h' h.size [.int .i64 c, ov, nv] ∧ ∃ (i : Nat) (ov' : Value) (out : List F), tm 30 = .int .i64 i ∧ tm 7 = ov' ∧ i ≤ l.length ∧
      OS prog h.size h' 3 cF ov' out ∧ (∀ y, blkOf ov' = some y → y ≠ h.size) ∧ out.length ≤ i ∧ out ++ (l.drop i).filterMap (adjF c o n) = l.filterMap (adjF c o n)) (fun tm _ => (l.length - intOf (tm 30)).toNat)
    ⟨K02, (by first | rfl | (simp only [wk, wt, wl, ↓reduceIte, Nat.reduceEqDiff, Nat.reduceAdd, Nat.zero_add, not_false_eq_true, not_true_eq_false]; done) | (simp only [wk, wt, wl, ↓reduceIte, Nat.reduceEqDiff, Nat.reduceAdd, Nat.zero_add, not_false_eq_true, not_true_eq_false]; rfl)), (by first | rfl | (simp only [wk, wt, wl, ↓reduceIte, Nat.reduceEqDiff, Nat.reduceAdd, Nat.zero_add, not_false_eq_true, not_true_eq_false]; done) | (simp only [wk, wt, wl, ↓reduceIte, Nat.reduceEqDiff, Nat.reduceAdd, Nat.zero_add, not_false_eq_true, not_true_eq_false]; rfl)), (by first | rfl | (simp only [wk, wt, wl, ↓reduceIte, Nat.reduceEqDiff, Nat.reduceAdd, Nat.zero_add, not_false_eq_true, not_true_eq_false]; done) | (simp only [wk, wt, wl, ↓reduceIte, Nat.reduceEqDiff, Nat.reduceAdd, Nat.zero_add, not_false_eq_true, not_true_eq_false]; rfl)), (by first | rfl | (simp only [wk, wt, wl, ↓reduceIte, Nat.reduceEqDiff, Nat.reduceAdd, Nat.zero_add, not_false_eq_true, not_true_eq_false]; done) | (simp only [wk, wt, wl, ↓reduceIte, Nat.reduceEqDiff, Nat.reduceAdd, Nat.zero_add, not_false_eq_true, not_true_eq_false]; rfl)), (by first | rfl | (simp only [wk, wt, wl, ↓reduceIte, Nat.reduceEqDiff, Nat.reduceAdd, Nat.zero_add, not_false_eq_true, not_true_eq_false]; done) | (simp only [wk, wt, wl, ↓reduceIte, Nat.reduceEqDiff, Nat.reduceAdd, Nat.zero_add, not_false_eq_true, not_true_eq_false]; rfl)), (by first | rfl | (simp only [wk, wt, wl, ↓reduceIte, Nat.reduceEqDiff, Nat.reduceAdd, Nat.zero_add, not_false_eq_true, not_true_eq_false]; done) | (simp only [wk, wt, wl, ↓reduceIte, Nat.reduceEqDiff, Nat.reduceAdd, Nat.zero_add, not_false_eq_true, not_true_eq_false]; rfl)), V2, 0, .slice none 0 0, [], (by first | rfl | (simp only [wk, wt, wl, ↓reduceIte, Nat.reduceEqDiff, Nat.reduceAdd, Nat.zero_add, not_false_eq_true, not_true_eq_false]; done) | (simp only [wk, wt, wl, ↓reduceIte, Nat.reduceEqDiff, Nat.reduceAdd, Nat.zero_add, not_false_eq_true, not_true_eq_false]; rfl)), (by first | rfl | (simp only [wk, wt, wl, ↓reduceIte, Nat.reduceEqDiff, Nat.reduceAdd, Nat.zero_add, not_false_eq_true, not_true_eq_false]; done) | (simp only [wk, wt, wl, ↓reduceIte, Nat.reduceEqDiff, Nat.reduceAdd, Nat.zero_add, not_false_eq_true, not_true_eq_false]; rfl)), by omega, OS.nil, (fun y hy => by cases hy), by simp, rfl⟩ ?_
  clear V2 V0 K02 K0 K2 R2
  rintro tm h' ⟨K, t0, t3, t5, t6, t28, t29, V0, i, ov', out, t30, t7, hi, O, hov, hol, hfm⟩
  have R' : FR h' v l := RS.keeps R K
  simp (disch := omega) only [wk, wt, wl, ↓reduceIte, Nat.reduceEqDiff, Nat.reduceAdd, Nat.zero_add, not_false_eq_true, not_true_eq_false, t0, t3, t5, t6, t28, t29, t30, t7]
  refine condK_dec (fun hd => ?_) (fun hd => ?_)
  · have hi1 : i < l.length := by omega
    obtain ⟨f, hx⟩ : ∃ f, l[i]? = some f := ⟨l[i], by simp [hi1]⟩
    have hf := r1 i f hx
    have hnf := nearF_at hn hx
    obtain ⟨F0, F1, F2, F3⟩ := R'.flds hx
    have IX := Rd.index R' underlying22 asz36 (q := .i64) (i := (i : Int)) (by omega) (by omega)
    simp only [Int.toNat_natCast] at IX
    simp (disch := omega) only [wk, wt, wl, ↓reduceIte, Nat.reduceEqDiff, Nat.reduceAdd, Nat.zero_add, not_false_eq_true, not_true_eq_false, t0, t3, t5, t6, t28, t29, t30, t7, IX, F3]
    have K3 := Keeps.new (Ch.wf K) 36 [Value.int IntKind.i64 0, Value.int IntKind.i64 0, Value.bool false]
    have V3 := Var.new (e := 36) (Ch.wf K) (cs := [Value.int IntKind.i64 0, Value.int IntKind.i64 0, Value.bool false])
    obtain ⟨h4, e4, V4, C4, z4⟩ := V3.store (P := prog) (t := 36) (v := .agg #[.int .i64 f.fr, .int .i64 f.to, .bool f.cl]) (i := 0) (Ch.wf K3) asz36 (by simp [Value.cells]) (by simp [Value.cells, one])
    rw [e4]; clear e4
    simp only [Value.cells, over_all (xs := [Value.int IntKind.i64 0, Value.int IntKind.i64 0, Value.bool false]) (vs := [.int .i64 f.fr, .int .i64 f.to, .bool f.cl]) rfl] at V4
    have K14 := K3.step C4 (fun b hb => by omega)
    have WW := fun {hh : Heap} {a b : Int} (V : Var hh h'.size [.int .i64 a, .int .i64 b, .bool f.cl]) => And.intro (V.load1 (P := prog) (t := 3) underlying3 rfl (i := 0)) (V.load1 (P := prog) (t := 3) underlying3 rfl (i := 1))
    simp only [List.getElem?_cons_succ, List.getElem?_cons_zero] at WW
    have V04 := Keeps.var (Ch.wf K) K14 V0
    have hlt0 := V0.lt (Ch.wf K)
    simp (disch := omega) only [wk, wt, wl, ↓reduceIte, Nat.reduceEqDiff, Nat.reduceAdd, Nat.zero_add, not_false_eq_true, not_true_eq_false]
    refine adraw_order [(0, false), (1, false), (2, false), (3, false), (4, false), (5, false), (6, false), (7, false), (8, false), (9, false), (10, false)] mixed (by kernel_rfl) (by kernel_rfl) (by kernel_rfl) (by with_reducible repeat (first | exact PF_retK | refine PF_thenK ?_ | refine PF_blockK ?_)) ?_
    simp (disch := omega) only [wk, wt, wl, ↓reduceIte, Nat.reduceEqDiff, Nat.reduceAdd, Nat.zero_add, not_false_eq_true, not_true_eq_false, t0, t3, t5, t6, t28, t29, t30, t7, WW V4, WC V04]
    have wb : IntKind.i64.wrap (f.to + ((n : Int) - o)) = f.to + ((n : Int) - o) := IntWalk.i64_in _ (by omega)
    by_cases hA : f.to < c
    · have dA : decide (c ≤ f.to) = false := decide_eq_false (by omega)
      simp (disch := omega) only [wk, wt, wl, ↓reduceIte, Nat.reduceEqDiff, Nat.reduceAdd, Nat.zero_add, not_false_eq_true, not_true_eq_false, t0, t3, t5, t6, t28, t29, t30, t7, WW V4, WC V04, dA]
      by_cases hlt : f.fr < f.to
      · have dl : decide (f.fr < f.to) = true := decide_eq_true hlt
        have hadj : adjF c o n f = some ⟨f.fr, f.to, f.cl⟩ := by unfold adjF keepF; simp [hA, hlt]
        simp (disch := omega) only [wk, wt, wl, ↓reduceIte, Nat.reduceEqDiff, Nat.reduceAdd, Nat.zero_add, not_false_eq_true, not_true_eq_false, t0, t3, t5, t6, t7, t28, t29, t30, WW V4, dl, (V4).loadA (P := prog) (t := 36) underlying36 rfl asz36, bsf]
        obtain ⟨v2, h2, e2, O2, C2, R2, ev2⟩ := (O.keeps K14).append1 (P := prog) (Ch.wf K14) (by have := Ch.le K; have := Ch.le K14; omega) underlying22 elem36 fits36 (by decide) (by decide) ⟨f.fr, f.to, f.cl⟩ rfl (by omega)
        rw [e2]; clear e2
        have KK := (K.trans K14).step C2 fun b hb => hb.2
        have VV := Ch.var (Ch.wf K14) C2 (Keeps.var (Ch.wf K) K14 V0) fun e => hov _ e.1 rfl
        simp (disch := omega) only [wk, wt, wl, ↓reduceIte, Nat.reduceEqDiff, Nat.reduceAdd, Nat.zero_add, not_false_eq_true, not_true_eq_false, t0, t3, t5, t6, t28, t29, t30, IntWalk.i64_in, intOf_int]
        refine ⟨⟨KK, VV, i + 1, v2, out ++ [⟨f.fr, f.to, f.cl⟩], by simp, rfl, by omega, O2, fun y hy => ?_, by simp only [List.length_append, List.length_singleton]; omega, (adj_next hx hfm).2 _ hadj⟩, by omega⟩
        rw [ev2] at hy; simp only [blkOf, Option.some.injEq] at hy; have := Ch.le K; have := Ch.le K14; omega
      · have dl : decide (f.fr < f.to) = false := decide_eq_false hlt
        have hadj : adjF c o n f = none := by unfold adjF keepF; simp [hA, hlt]
        simp (disch := omega) only [wk, wt, wl, ↓reduceIte, Nat.reduceEqDiff, Nat.reduceAdd, Nat.zero_add, not_false_eq_true, not_true_eq_false, t0, t3, t5, t6, t7, t28, t29, t30, WW V4, dl, IntWalk.i64_in, intOf_int]
        exact ⟨⟨K.trans K14, Keeps.var (Ch.wf K) K14 V0, i + 1, ov', out, by simp, rfl, by omega, O.keeps K14, hov, by omega, (adj_next hx hfm).1 hadj⟩, by omega⟩
    · have dA : decide (c ≤ f.to) = true := decide_eq_true (by omega)
      have hlt4 := V4.lt (Ch.wf K14)
      have hle4 := Ch.le K14
      by_cases hah : f.fr < c
      · have d1 : decide (f.fr < c) = true := decide_eq_true hah
        by_cases hbe : c + o ≤ f.to
        · have d2 : decide (c + (o : Int) ≤ f.to) = true := decide_eq_true hbe
          obtain ⟨h6, e6, V6, C6, z6⟩ := V4.store1 (P := prog) (t := 3) (v := .int .i64 (f.to + ((n : Int) - o))) (i := 1) (Ch.wf K14) asz3 (by simp) rfl
          simp only [List.set_cons_succ, List.set_cons_zero] at V6
          have K16 := K14.step C6 (fun b hb => by omega)
          simp (disch := omega) only [wk, wt, wl, ↓reduceIte, Nat.reduceEqDiff, Nat.reduceAdd, Nat.zero_add, not_false_eq_true, not_true_eq_false, t0, t3, t5, t6, t28, t29, t30, t7, WW V4, WC V04, dA, d1, d2, Bool.not_true, IntWalk.i64_in, e6]
          by_cases hlt : f.fr < f.to + ((n : Int) - o)
          · have dl : decide (f.fr < f.to + ((n : Int) - o)) = true := decide_eq_true hlt
            have hadj : adjF c o n f = some ⟨f.fr, f.to + ((n : Int) - o), f.cl⟩ := by unfold adjF keepF; simp [hA, hah, hbe, hlt]
            simp (disch := omega) only [wk, wt, wl, ↓reduceIte, Nat.reduceEqDiff, Nat.reduceAdd, Nat.zero_add, not_false_eq_true, not_true_eq_false, t0, t3, t5, t6, t7, t28, t29, t30, WW V6, dl, (V6).loadA (P := prog) (t := 36) underlying36 rfl asz36, bsf]
            obtain ⟨v2, h2, e2, O2, C2, R2, ev2⟩ := (O.keeps K16).append1 (P := prog) (Ch.wf K16) (by have := Ch.le K; have := Ch.le K16; omega) underlying22 elem36 fits36 (by decide) (by decide) ⟨f.fr, f.to + ((n : Int) - o), f.cl⟩ rfl (by omega)
            rw [e2]; clear e2
            have KK := (K.trans K16).step C2 fun b hb => hb.2
            have VV := Ch.var (Ch.wf K16) C2 (Keeps.var (Ch.wf K) K16 V0) fun e => hov _ e.1 rfl
            simp (disch := omega) only [wk, wt, wl, ↓reduceIte, Nat.reduceEqDiff, Nat.reduceAdd, Nat.zero_add, not_false_eq_true, not_true_eq_false, t0, t3, t5, t6, t28, t29, t30, IntWalk.i64_in, intOf_int]
            refine ⟨⟨KK, VV, i + 1, v2, out ++ [⟨f.fr, f.to + ((n : Int) - o), f.cl⟩], by simp, rfl, by omega, O2, fun y hy => ?_, by simp only [List.length_append, List.length_singleton]; omega, (adj_next hx hfm).2 _ hadj⟩, by omega⟩
            rw [ev2] at hy; simp only [blkOf, Option.some.injEq] at hy; have := Ch.le K; have := Ch.le K16; omega
          · have dl : decide (f.fr < f.to + ((n : Int) - o)) = false := decide_eq_false hlt
            have hadj : adjF c o n f = none := by unfold adjF keepF; simp [hA, hah, hbe, hlt]
            simp (disch := omega) only [wk, wt, wl, ↓reduceIte, Nat.reduceEqDiff, Nat.reduceAdd, Nat.zero_add, not_false_eq_true, not_true_eq_false, t0, t3, t5, t6, t7, t28, t29, t30, WW V6, dl, IntWalk.i64_in, intOf_int]
            exact ⟨⟨K.trans K16, Keeps.var (Ch.wf K) K16 V0, i + 1, ov', out, by simp, rfl, by omega, O.keeps K16, hov, by omega, (adj_next hx hfm).1 hadj⟩, by omega⟩
        · have d2 : decide (c + (o : Int) ≤ f.to) = false := decide_eq_false hbe
          obtain ⟨h6, e6, V6, C6, z6⟩ := V4.store1 (P := prog) (t := 3) (v := .int .i64 (c - 1)) (i := 1) (Ch.wf K14) asz3 (by simp) rfl
          simp only [List.set_cons_succ, List.set_cons_zero] at V6
          have K16 := K14.step C6 (fun b hb => by omega)
          simp (disch := omega) only [wk, wt, wl, ↓reduceIte, Nat.reduceEqDiff, Nat.reduceAdd, Nat.zero_add, not_false_eq_true, not_true_eq_false, t0, t3, t5, t6, t28, t29, t30, t7, WW V4, WC V04, dA, d1, d2, Bool.not_true, IntWalk.i64_in, e6]
          by_cases hlt : f.fr < c - 1
          · have dl : decide (f.fr < c - 1) = true := decide_eq_true hlt
            have hadj : adjF c o n f = some ⟨f.fr, c - 1, f.cl⟩ := by unfold adjF keepF; simp [hA, hah, hbe, hlt]
            simp (disch := omega) only [wk, wt, wl, ↓reduceIte, Nat.reduceEqDiff, Nat.reduceAdd, Nat.zero_add, not_false_eq_true, not_true_eq_false, t0, t3, t5, t6, t7, t28, t29, t30, WW V6, dl, (V6).loadA (P := prog) (t := 36) underlying36 rfl asz36, bsf]
            obtain ⟨v2, h2, e2, O2, C2, R2, ev2⟩ := (O.keeps K16).append1 (P := prog) (Ch.wf K16) (by have := Ch.le K; have := Ch.le K16; omega) underlying22 elem36 fits36 (by decide) (by decide) ⟨f.fr, c - 1, f.cl⟩ rfl (by omega)
            rw [e2]; clear e2
            have KK := (K.trans K16).step C2 fun b hb => hb.2
            have VV := Ch.var (Ch.wf K16) C2 (Keeps.var (Ch.wf K) K16 V0) fun e => hov _ e.1 rfl
            simp (disch := omega) only [wk, wt, wl, ↓reduceIte, Nat.reduceEqDiff, Nat.reduceAdd, Nat.zero_add, not_false_eq_true, not_true_eq_false, t0, t3, t5, t6, t28, t29, t30, IntWalk.i64_in, intOf_int]
            refine ⟨⟨KK, VV, i + 1, v2, out ++ [⟨f.fr, c - 1, f.cl⟩], by simp, rfl, by omega, O2, fun y hy => ?_, by simp only [List.length_append, List.length_singleton]; omega, (adj_next hx hfm).2 _ hadj⟩, by omega⟩
            rw [ev2] at hy; simp only [blkOf, Option.some.injEq] at hy; have := Ch.le K; have := Ch.le K16; omega
          · have dl : decide (f.fr < c - 1) = false := decide_eq_false hlt
            have hadj : adjF c o n f = none := by unfold adjF keepF; simp [hA, hah, hbe, hlt]
            simp (disch := omega) only [wk, wt, wl, ↓reduceIte, Nat.reduceEqDiff, Nat.reduceAdd, Nat.zero_add, not_false_eq_true, not_true_eq_false, t0, t3, t5, t6, t7, t28, t29, t30, WW V6, dl, IntWalk.i64_in, intOf_int]
            exact ⟨⟨K.trans K16, Keeps.var (Ch.wf K) K16 V0, i + 1, ov', out, by simp, rfl, by omega, O.keeps K16, hov, by omega, (adj_next hx hfm).1 hadj⟩, by omega⟩
      · have d1 : decide (f.fr < c) = false := decide_eq_false hah
        by_cases hin : f.fr < c + o
        · have d3 : decide (f.fr < c + (o : Int)) = true := decide_eq_true hin
          obtain ⟨h5, e5, V5, C5, z5⟩ := V4.store1 (P := prog) (t := 3) (v := .int .i64 (c + (n : Int))) (i := 0) (Ch.wf K14) asz3 (by simp) rfl
          simp only [List.set_cons_succ, List.set_cons_zero] at V5
          have K15 := K14.step C5 (fun b hb => by omega)
          by_cases hbe : c + o ≤ f.to
          · have d2 : decide (c + (o : Int) ≤ f.to) = true := decide_eq_true hbe
            obtain ⟨h6, e6, V6, C6, z6⟩ := V5.store1 (P := prog) (t := 3) (v := .int .i64 (f.to + ((n : Int) - o))) (i := 1) (Ch.wf K15) asz3 (by simp) rfl
            simp only [List.set_cons_succ, List.set_cons_zero] at V6
            have K16 := K15.step C6 (fun b hb => by omega)
            simp (disch := omega) only [wk, wt, wl, ↓reduceIte, Nat.reduceEqDiff, Nat.reduceAdd, Nat.zero_add, not_false_eq_true, not_true_eq_false, t0, t3, t5, t6, t28, t29, t30, t7, WW V4, WC V04, WN V04, LN, dA, d1, d2, d3, Bool.not_false, IntWalk.i64_in, e5]
            simp (disch := omega) only [wk, wt, wl, ↓reduceIte, Nat.reduceEqDiff, Nat.reduceAdd, Nat.zero_add, not_false_eq_true, not_true_eq_false, t0, t3, t5, t6, t28, t29, t30, t7, WW V5, wb, e6]
            by_cases hlt : c + (n : Int) < f.to + ((n : Int) - o)
            · have dl : decide (c + (n : Int) < f.to + ((n : Int) - o)) = true := decide_eq_true hlt
              have hadj : adjF c o n f = some ⟨c + (n : Int), f.to + ((n : Int) - o), f.cl⟩ := by unfold adjF keepF; simp [hA, hah, hbe, hin, hlt]
              simp (disch := omega) only [wk, wt, wl, ↓reduceIte, Nat.reduceEqDiff, Nat.reduceAdd, Nat.zero_add, not_false_eq_true, not_true_eq_false, t0, t3, t5, t6, t7, t28, t29, t30, WW V6, dl, (V6).loadA (P := prog) (t := 36) underlying36 rfl asz36, bsf]
              obtain ⟨v2, h2, e2, O2, C2, R2, ev2⟩ := (O.keeps K16).append1 (P := prog) (Ch.wf K16) (by have := Ch.le K; have := Ch.le K16; omega) underlying22 elem36 fits36 (by decide) (by decide) ⟨c + (n : Int), f.to + ((n : Int) - o), f.cl⟩ rfl (by omega)
              rw [e2]; clear e2
              have KK := (K.trans K16).step C2 fun b hb => hb.2
              have VV := Ch.var (Ch.wf K16) C2 (Keeps.var (Ch.wf K) K16 V0) fun e => hov _ e.1 rfl
              simp (disch := omega) only [wk, wt, wl, ↓reduceIte, Nat.reduceEqDiff, Nat.reduceAdd, Nat.zero_add, not_false_eq_true, not_true_eq_false, t0, t3, t5, t6, t28, t29, t30, IntWalk.i64_in, intOf_int]
              refine ⟨⟨KK, VV, i + 1, v2, out ++ [⟨c + (n : Int), f.to + ((n : Int) - o), f.cl⟩], by simp, rfl, by omega, O2, fun y hy => ?_, by simp only [List.length_append, List.length_singleton]; omega, (adj_next hx hfm).2 _ hadj⟩, by omega⟩
              rw [ev2] at hy; simp only [blkOf, Option.some.injEq] at hy; have := Ch.le K; have := Ch.le K16; omega
            · have dl : decide (c + (n : Int) < f.to + ((n : Int) - o)) = false := decide_eq_false hlt
              have hadj : adjF c o n f = none := by unfold adjF keepF; simp [hA, hah, hbe, hin, hlt]
              simp (disch := omega) only [wk, wt, wl, ↓reduceIte, Nat.reduceEqDiff, Nat.reduceAdd, Nat.zero_add, not_false_eq_true, not_true_eq_false, t0, t3, t5, t6, t7, t28, t29, t30, WW V6, dl, IntWalk.i64_in, intOf_int]
              exact ⟨⟨K.trans K16, Keeps.var (Ch.wf K) K16 V0, i + 1, ov', out, by simp, rfl, by omega, O.keeps K16, hov, by omega, (adj_next hx hfm).1 hadj⟩, by omega⟩
          · have d2 : decide (c + (o : Int) ≤ f.to) = false := decide_eq_false hbe
            have hadj : adjF c o n f = none := by unfold adjF keepF; simp [hA, hah, hbe, hin]
            simp (disch := omega) only [wk, wt, wl, ↓reduceIte, Nat.reduceEqDiff, Nat.reduceAdd, Nat.zero_add, not_false_eq_true, not_true_eq_false, t0, t3, t5, t6, t28, t29, t30, t7, WW V4, WC V04, WN V04, LN, dA, d1, d2, d3, Bool.not_false, IntWalk.i64_in, e5]
            simp (disch := omega) only [wk, wt, wl, ↓reduceIte, Nat.reduceEqDiff, Nat.reduceAdd, Nat.zero_add, not_false_eq_true, not_true_eq_false, intOf_int, IntWalk.i64_in]
            exact ⟨⟨K.trans K15, Keeps.var (Ch.wf K) K15 V0, i + 1, ov', out, by simp, rfl, by omega, O.keeps K15, hov, by omega, (adj_next hx hfm).1 hadj⟩, by omega⟩
        · have d3 : decide (f.fr < c + (o : Int)) = false := decide_eq_false hin
          have hbe : c + o ≤ f.to := by omega
          have d2 : decide (c + (o : Int) ≤ f.to) = true := decide_eq_true hbe
          obtain ⟨h5, e5, V5, C5, z5⟩ := V4.store1 (P := prog) (t := 3) (v := .int .i64 (f.fr + ((n : Int) - o))) (i := 0) (Ch.wf K14) asz3 (by simp) rfl
          simp only [List.set_cons_succ, List.set_cons_zero] at V5
          have K15 := K14.step C5 (fun b hb => by omega)
          obtain ⟨h6, e6, V6, C6, z6⟩ := V5.store1 (P := prog) (t := 3) (v := .int .i64 (f.to + ((n : Int) - o))) (i := 1) (Ch.wf K15) asz3 (by simp) rfl
          simp only [List.set_cons_succ, List.set_cons_zero] at V6
          have K16 := K15.step C6 (fun b hb => by omega)
          simp (disch := omega) only [wk, wt, wl, ↓reduceIte, Nat.reduceEqDiff, Nat.reduceAdd, Nat.zero_add, not_false_eq_true, not_true_eq_false, t0, t3, t5, t6, t28, t29, t30, t7, WW V4, WC V04, dA, d1, d2, d3, Bool.not_false, IntWalk.i64_in, e5]
          simp (disch := omega) only [wk, wt, wl, ↓reduceIte, Nat.reduceEqDiff, Nat.reduceAdd, Nat.zero_add, not_false_eq_true, not_true_eq_false, t0, t3, t5, t6, t28, t29, t30, t7, WW V5, wb, e6]
          by_cases hlt : f.fr + ((n : Int) - o) < f.to + ((n : Int) - o)
          · have dl : decide (f.fr + ((n : Int) - o) < f.to + ((n : Int) - o)) = true := decide_eq_true hlt
            have hadj : adjF c o n f = some ⟨f.fr + ((n : Int) - o), f.to + ((n : Int) - o), f.cl⟩ := by unfold adjF keepF; simp [hA, hah, hin, hlt]
            simp (disch := omega) only [wk, wt, wl, ↓reduceIte, Nat.reduceEqDiff, Nat.reduceAdd, Nat.zero_add, not_false_eq_true, not_true_eq_false, t0, t3, t5, t6, t7, t28, t29, t30, WW V6, dl, (V6).loadA (P := prog) (t := 36) underlying36 rfl asz36, bsf]
            obtain ⟨v2, h2, e2, O2, C2, R2, ev2⟩ := (O.keeps K16).append1 (P := prog) (Ch.wf K16) (by have := Ch.le K; have := Ch.le K16; omega) underlying22 elem36 fits36 (by decide) (by decide) ⟨f.fr + ((n : Int) - o), f.to + ((n : Int) - o), f.cl⟩ rfl (by omega)
            rw [e2]; clear e2
            have KK := (K.trans K16).step C2 fun b hb => hb.2
            have VV := Ch.var (Ch.wf K16) C2 (Keeps.var (Ch.wf K) K16 V0) fun e => hov _ e.1 rfl
            simp (disch := omega) only [wk, wt, wl, ↓reduceIte, Nat.reduceEqDiff, Nat.reduceAdd, Nat.zero_add, not_false_eq_true, not_true_eq_false, t0, t3, t5, t6, t28, t29, t30, IntWalk.i64_in, intOf_int]
            refine ⟨⟨KK, VV, i + 1, v2, out ++ [⟨f.fr + ((n : Int) - o), f.to + ((n : Int) - o), f.cl⟩], by simp, rfl, by omega, O2, fun y hy => ?_, by simp only [List.length_append, List.length_singleton]; omega, (adj_next hx hfm).2 _ hadj⟩, by omega⟩
            rw [ev2] at hy; simp only [blkOf, Option.some.injEq] at hy; have := Ch.le K; have := Ch.le K16; omega
          · have dl : decide (f.fr + ((n : Int) - o) < f.to + ((n : Int) - o)) = false := decide_eq_false hlt
            have hadj : adjF c o n f = none := by unfold adjF keepF; simp [hA, hah, hin, hlt]
            simp (disch := omega) only [wk, wt, wl, ↓reduceIte, Nat.reduceEqDiff, Nat.reduceAdd, Nat.zero_add, not_false_eq_true, not_true_eq_false, t0, t3, t5, t6, t7, t28, t29, t30, WW V6, dl, IntWalk.i64_in, intOf_int]
            exact ⟨⟨K.trans K16, Keeps.var (Ch.wf K) K16 V0, i + 1, ov', out, by simp, rfl, by omega, O.keeps K16, hov, by omega, (adj_next hx hfm).1 hadj⟩, by omega⟩
  · rw [List.drop_of_length_le (by omega)] at hfm
    simp (disch := omega) only [wk, wt, wl, ↓reduceIte, Nat.reduceEqDiff, Nat.reduceAdd, Nat.zero_add, not_false_eq_true, not_true_eq_false, t7]
    simp only [List.filterMap_nil, List.append_nil] at hfm
    rw [← hfm]
    exact ⟨O.rs, K⟩
end Go.Proofs.Ytgfccaaalkkdlaa.Am
end
section
/- The examples of the seventeenth chapter: contracts of slices.Clone, slices.Insert and fold.Make where there are no folds, and of awake, by walks. -/
set_option linter.unusedSimpArgs false
set_option linter.unusedVariables false
set_option maxHeartbeats 4000000
set_option maxRecDepth 20000
namespace Go.Proofs.Ytgfccaaalkkdlaa.Am
open Go Go.RowKit Go.Proofs.Try
theorem eq_fold {x y : Int} {c : Bool} : abin prog .eql 36 (.agg #[.int .i64 x, .int .i64 y, .bool c]) (.agg #[.int .i64 x, .int .i64 y, .bool c]) = some (.bool true) := by
  simp [abin, aeq, underlying36, stood_fold, guard_fold, aeqF, apart, aeq1, wt, isAggD]
theorem nil_eq {t e : TypeId} {P : Program} (ht : P.underlying t = some (.slice e)) : abin P .eql t (.slice none 0 0) (.slice none 0 0) = some (.bool true) := by simp [abin, aeq, ht]
theorem cloneN_ok {h : Heap} : ACalls prog 34 #[.slice none 0 0] h (fun y h' => y = .slice none 0 0 ∧ h' = h) := by
  refine acalls_of_W func34 rfl (by kernel_rfl) (by kernel_rfl) (by simp [ntmps34]) ?_
  simp only [wk, wt, wl, ↓reduceIte, Nat.reduceEqDiff, Nat.reduceAdd, Nat.zero_add, not_false_eq_true, not_true_eq_false, nil_eq (P := prog) underlying22]
theorem insertN_ok {x : Value} {f : F} {h : Heap} (X : FR h x [f]) : ACalls prog 33 #[.slice none 0 0, .int .i64 0, x] h (fun y h' => OS prog h.size h' 3 cF y [f] ∧ Keeps h h') := by
  refine acalls_of_W' func33 rfl (by kernel_rfl) (by kernel_rfl) (by simp [ntmps33]) ?_
  intro H
  have N0 : FR h (.slice none 0 0) [] := Rd.nil0
  have d1 : decide ((1 : Int) = 0) = false := by decide
  have d0 : decide ((0 : Int) = 0) = true := by decide
  have L1 : abuiltin prog .len #[22] #[x] = some (.int .i64 1) := X.len underlying22
  have L0 : abuiltin prog .len #[22] #[.slice none 0 0] = some (.int .i64 0) := N0.len underlying22
  have S0 := Rd.sliceLo N0 underlying22 asz36 (q := .i64) (i := 0) (by omega) (by simp)
  simp only [wk, wt, wl, ↓reduceIte, Nat.reduceEqDiff, Nat.reduceAdd, Nat.zero_add, not_false_eq_true, not_true_eq_false, S0, L1, L0, d0, d1]
  obtain ⟨v2, h2, e2, O2, R2, C2, _⟩ := (OS.nil (P := prog) (B := h.size) (h := h) (s := 3) (c := cF)).appendRS H (Nat.le_refl _) underlying22 elem36 fits36 (by decide) X (by simp)
  rw [e2]; clear e2
  simp only [wk, wt, wl, ↓reduceIte, Nat.reduceEqDiff, Nat.reduceAdd, Nat.zero_add, not_false_eq_true, not_true_eq_false]
  exact ⟨O2, (Keeps.refl H).step C2 fun b hb => hb.2⟩
theorem make0_ok {h : Heap} : ACalls prog 23 #[.slice none 0 0, .int .i64 2, .int .i64 4] h (fun y h' => ∃ v, y = .tuple #[v, .int .i64 0] ∧ FR h' v [⟨2, 4, true⟩] ∧ Keeps h h') := by
  refine acalls_of_W' func23 rfl (by kernel_rfl) (by kernel_rfl) (by simp [ntmps23]) ?_
  intro H
  have N0 : FR h (.slice none 0 0) [] := Rd.nil0
  simp only [wk, wt, wl, ↓reduceIte, Nat.reduceEqDiff, Nat.reduceAdd, Nat.zero_add, not_false_eq_true, not_true_eq_false]
  refine (right_ok N0 (by simp)).use ?_
  rintro _ h2 ⟨rfl, K2⟩
  have hr : rightB [] = true := rfl
  have d1 : decide ((2 : Int) < 0) = false := by decide
  have d2 : decide ((4 : Int) ≤ 2) = false := by decide
  have d3 : decide ((1073741824 : Int) < 4) = false := by decide
  simp only [wk, wt, wl, ↓reduceIte, Nat.reduceEqDiff, Nat.reduceAdd, Nat.zero_add, not_false_eq_true, not_true_eq_false, hr, Bool.not_true, d1, d2, d3]
  refine (find_ok (x := 2) (N0.keeps K2) hr).use ?_
  rintro _ h3 ⟨i, rfl, hi, _, _, K3⟩
  obtain rfl : i = 0 := by simpa using hi
  have L0 : abuiltin prog .len #[22] #[.slice none 0 0] = some (.int .i64 0) := N0.len underlying22
  have d4 : decide ((0 : Int) < 0) = false := by decide
  have d5 : decide ((0 : Int) = 64) = false := by decide
  simp only [wk, wt, wl, ↓reduceIte, Nat.reduceEqDiff, Nat.reduceAdd, Nat.zero_add, not_false_eq_true, not_true_eq_false, L0, Int.cast_ofNat_Int, d4, d5]
  refine cloneN_ok.use_pure ?_
  simp only [wk, wt, wl, ↓reduceIte, Nat.reduceEqDiff, Nat.reduceAdd, Nat.zero_add, not_false_eq_true, not_true_eq_false, build_f3, bsf]
  have K4 := K2.trans K3
  have N5 := Keeps.new (Ch.wf K4) 36 (cF ⟨2, 4, true⟩)
  have X5 : FR (h3.new 36 (cF ⟨2, 4, true⟩)) (.slice (some ⟨h3.size, 0, none⟩) 1 2) [⟨2, 4, true⟩] := Rd.new (Ch.wf K4) asz36 rfl
  refine (insertN_ok X5).use ?_
  rintro v6 h6 ⟨O6, K6⟩
  simp only [wk, wt, wl, ↓reduceIte, Nat.reduceEqDiff, Nat.reduceAdd, Nat.zero_add, not_false_eq_true, not_true_eq_false]
  exact ⟨v6, rfl, O6.rs, (K4.trans N5).trans K6⟩
theorem RowsR.mk {l : List F} {n i j : Int} {e : F} {r : List F} (h : i < n) (hj : nextZ1 l i = j) (he : e = ⟨i, (if n < j then n else j) - 1, (shutF l i).isSome⟩) (t : RowsR l n j r) : RowsR l n i (e :: r) := by
  subst hj; subst he; exact .step h t
theorem rowsA : RowsR [⟨2, 4, true⟩] 6 0 [⟨0, 0, false⟩, ⟨1, 1, false⟩, ⟨2, 4, true⟩, ⟨5, 5, false⟩] :=
  .mk (j := 1) (by decide) (by decide) rfl (.mk (j := 2) (by decide) (by decide) rfl (.mk (j := 5) (by decide) (by decide) rfl (.mk (j := 6) (by decide) (by decide) rfl (.done (by decide)))))
theorem adjA : [(⟨2, 4, true⟩ : F)].filterMap (adjF 0 (0 : Nat) (1 : Nat)) = [⟨3, 5, true⟩] := rfl
theorem adjB : [(⟨2, 4, true⟩ : F)].filterMap (adjF 3 (5 : Nat) (0 : Nat)) = [] := rfl
theorem build_c2 {v : Value} (h : one v = true) : abuild prog 31 #[(2, v)] = some (chV 0 (.slice none 0 0) v) := by
  have h1 : v.cells = #[v] := one_cells h
  simp [abuild, wt, aplaces, Instr.fill, h1, chV]
  simp [Value.cells]
theorem build_c01 {x : Int} {v : Value} (h : one v = true) : abuild prog 31 #[(0, .int .i64 x), (1, v)] = some (chV x v (.slice none 0 0)) := by
  have h1 : v.cells = #[v] := one_cells h
  simp [abuild, wt, aplaces, Instr.fill, h1, chV]
  simp [Value.cells]
theorem ms5 {h : Heap} : ∃ cs, amakeSlice prog h 29 (.int .i64 5) (.int .i64 5) = some (.slice (some ⟨h.size, 0, none⟩) 5 6, h.new 78 cs) :=
  ⟨_, by simp [amakeSlice, underlying29, elem78, azero78, fits78.2.1, fits78.2.2, Value.cells, one]; rfl⟩
theorem bs1c {h : Heap} {v : Value} (hv : one v = true) : abuildSlice prog h 29 1 #[(0, v)] = some (.slice (some ⟨h.size, 0, none⟩) 1 2, h.new 78 [v]) := build1 underlying29 asz78 azero78 rfl hv
theorem awake_ok {h : Heap} : ACalls prog 18 #[] h (fun v h' => v = .bool true ∧ Keeps h h') := by
  refine acalls_of_W' func18 rfl (by kernel_rfl) (by kernel_rfl) (by simp [ntmps18]) ?_
  intro H
  have hr : rightB [⟨2, 4, true⟩] = true := by decide
  have hn : nearF [⟨2, 4, true⟩] = true := by decide
  simp only [wk, wt, wl, ↓reduceIte, Nat.reduceEqDiff, Nat.reduceAdd, Nat.zero_add, not_false_eq_true, not_true_eq_false]
  refine make0_ok.use ?_
  rintro _ h2 ⟨l1, rfl, R1, K2⟩
  simp only [wk, wt, wl, ↓reduceIte, Nat.reduceEqDiff, Nat.reduceAdd, Nat.zero_add, not_false_eq_true, not_true_eq_false]
  refine (rows_ok (n := 6) R1 (by simp) hn (by omega) hr).use ?_
  rintro rv h3 ⟨r, hrows, R3, _, K3⟩
  obtain rfl := hrows.det rowsA
  have K13 := K2.trans K3
  have len29 : ∀ (a : Option Addr) (n c : Nat), abuiltin prog .len #[29] #[.slice a n c] = some (.int .i64 n) := fun a n c => by simp [abuiltin, underlying29]
  simp only [wk, wt, wl, ↓reduceIte, Nat.reduceEqDiff, Nat.reduceAdd, Nat.zero_add, not_false_eq_true, not_true_eq_false, bs1c (v := .slice none 0 0) rfl, build_c2 (v := .slice (some ⟨h3.size, 0, none⟩) 1 2) rfl]
  have N4 := Keeps.new (Ch.wf K13) 78 [.slice none 0 0]
  have R1a : FR (h3.new 78 [.slice none 0 0]) l1 [⟨2, 4, true⟩] := RS.keeps R1 (K3.trans N4)
  refine (adjust_ok (c := 0) (o := 0) (n := 1) R1a hr hn (by omega) (by omega) (by omega) (len29 _ _ _) (len29 _ _ _) rfl rfl).use ?_
  rintro v4 h4 ⟨R4, K4⟩
  rw [adjA] at R4
  have K14 := (K13.trans N4).trans K4
  obtain ⟨cs, ms⟩ := ms5 (h := h4)
  simp only [wk, wt, wl, ↓reduceIte, Nat.reduceEqDiff, Nat.reduceAdd, Nat.zero_add, not_false_eq_true, not_true_eq_false, ms, build_c01 (x := 3) (v := .slice (some ⟨h4.size, 0, none⟩) 5 6) rfl]
  have N5 := Keeps.new (Ch.wf K14) 78 cs
  have R1b : FR (h4.new 78 cs) l1 [⟨2, 4, true⟩] := RS.keeps R1a (K4.trans N5)
  refine (adjust_ok (c := 3) (o := 5) (n := 0) R1b hr hn (by omega) (by omega) (by omega) (len29 _ _ _) (len29 _ _ _) rfl rfl).use ?_
  rintro v5 h5 ⟨R5, K5⟩
  rw [adjB] at R5
  have K15 := (K14.trans N5).trans K5
  have R1c : FR h5 l1 [⟨2, 4, true⟩] := RS.keeps R1b K5
  have R3c : FR h5 rv _ := RS.keeps R3 ((N4.trans K4).trans (N5.trans K5))
  have R4c : FR h5 v4 [⟨3, 5, true⟩] := RS.keeps R4 (N5.trans K5)
  have L1 : abuiltin prog .len #[22] #[l1] = some (.int .i64 1) := R1c.len underlying22
  have L3 : abuiltin prog .len #[22] #[rv] = some (.int .i64 4) := R3c.len underlying22
  have L4 : abuiltin prog .len #[22] #[v4] = some (.int .i64 1) := R4c.len underlying22
  have L5 : abuiltin prog .len #[22] #[v5] = some (.int .i64 0) := R5.len underlying22
  have A1 := fun {hh : Heap} (R : FR hh l1 [⟨2, 4, true⟩]) => (FR.flds R (i := 0) rfl).2.2.2
  have A3 := fun {hh : Heap} (R : FR hh rv [⟨0, 0, false⟩, ⟨1, 1, false⟩, ⟨2, 4, true⟩, ⟨5, 5, false⟩]) => (FR.flds R (i := 2) rfl).2.2.2
  have A4 := fun {hh : Heap} (R : FR hh v4 [⟨3, 5, true⟩]) => And.intro (FR.flds R (i := 0) rfl).1 (FR.flds R (i := 0) rfl).2.1
  have X1 := fun {hh : Heap} (R : FR hh l1 [⟨2, 4, true⟩]) => Rd.index R underlying22 asz36 (q := .i64) (i := 0) (by omega) (by simp)
  have X3 := fun {hh : Heap} (R : FR hh rv [⟨0, 0, false⟩, ⟨1, 1, false⟩, ⟨2, 4, true⟩, ⟨5, 5, false⟩]) => Rd.index R underlying22 asz36 (q := .i64) (i := 2) (by omega) (by simp)
  have X4 := fun {hh : Heap} (R : FR hh v4 [⟨3, 5, true⟩]) => Rd.index R underlying22 asz36 (q := .i64) (i := 0) (by omega) (by simp)
  simp only [Int.toNat_zero, Int.reduceToNat] at X1 X3 X4
  have s1 : (shownZ [⟨2, 4, true⟩] 3).1 = 2 := by decide
  have s2 : (shownZ [⟨2, 4, true⟩] 3).2 + 1 = 5 := by decide
  have s3 : prevZ [⟨2, 4, true⟩] 5 = 2 := by decide
  simp only [wk, wt, wl, ↓reduceIte, Nat.reduceEqDiff, Nat.reduceAdd, Nat.zero_add, not_false_eq_true, not_true_eq_false]
  refine adraw_order [(0, false), (1, false), (2, false), (3, false), (4, false), (5, false), (6, false), (7, false), (8, false), (9, false), (10, false), (11, false), (12, false), (13, false), (14, false), (15, false), (16, true), (17, false), (18, false), (19, false), (20, false), (21, true), (22, false), (23, false), (24, false), (25, false), (26, true), (27, false), (28, false), (29, false), (30, false), (31, false), (32, false), (33, false), (34, false), (35, false), (36, false), (37, false), (38, false), (39, false), (40, false), (41, false), (42, false), (43, false), (44, false), (45, false), (46, false), (47, false), (48, false), (49, false), (50, false), (51, false), (52, false), (53, false), (54, false), (55, false), (56, false), (57, false), (58, false), (59, false), (60, false), (61, false), (62, false), (63, false), (64, false), (65, false), (66, false), (67, false), (68, false), (69, true), (70, false), (71, false)] mixed (by kernel_rfl) (by kernel_rfl) (by kernel_rfl) (by with_reducible repeat (first | exact PF_retK | refine PF_thenK ?_ | refine PF_blockK ?_)) ?_
  simp only [List.append_eq, List.cons_append, List.nil_append]
  simp (disch := omega) only [wk, wt, wl, ↓reduceIte, Nat.reduceEqDiff, Nat.reduceAdd, Nat.zero_add, not_false_eq_true, not_true_eq_false, dK_t, L1, X1 R1c, A1 R1c, build_f3, eq_fold, decide_true]
  repeat (refine ⟨Reads.refl _, ?_⟩)
  refine (head_ok R1c (by simp)).use ?_
  rintro _ h6 ⟨rfl, K6⟩
  rw [s1]
  have K06 := K15.trans K6
  simp (disch := omega) only [wk, wt, wl, ↓reduceIte, Nat.reduceEqDiff, Nat.reduceAdd, Nat.zero_add, not_false_eq_true, not_true_eq_false, dK_t, decide_true]
  refine ⟨K6.reads (Ch.wf K15), ?_⟩
  have R1d : FR h6 l1 [⟨2, 4, true⟩] := RS.keeps R1c K6
  refine (next_ok R1d (by simp) hn (by omega)).use ?_
  rintro _ h7 ⟨rfl, K7⟩
  rw [s2]
  have K07 := K06.trans K7
  simp (disch := omega) only [wk, wt, wl, ↓reduceIte, Nat.reduceEqDiff, Nat.reduceAdd, Nat.zero_add, not_false_eq_true, not_true_eq_false, dK_t, decide_true]
  refine ⟨K7.reads (Ch.wf K06), ?_⟩
  have R1e : FR h7 l1 [⟨2, 4, true⟩] := RS.keeps R1d K7
  refine (prev_ok R1e (by simp) hn (by omega)).use ?_
  rintro _ h8 ⟨rfl, K8⟩
  rw [s3]
  have K08 := K07.trans K8
  have K58 := (K6.trans K7).trans K8
  have R1f : FR h8 l1 [⟨2, 4, true⟩] := RS.keeps R1e K8
  have R3f : FR h8 rv _ := RS.keeps R3c K58
  have R4f : FR h8 v4 [⟨3, 5, true⟩] := RS.keeps R4c K58
  simp (disch := omega) only [wk, wt, wl, ↓reduceIte, Nat.reduceEqDiff, Nat.reduceAdd, Nat.zero_add, not_false_eq_true, not_true_eq_false, dK_t, decide_true, L3, L4, L5, X1 R1f, A1 R1f, X3 R3f, A3 R3f, X4 R4f, (A4 R4f).1, (A4 R4f).2, eq_fold]
  refine ⟨K8.reads (Ch.wf K07), ?_⟩
  repeat (refine ⟨Reads.refl _, ?_⟩)
  refine (right_ok R1f (by simp)).use ?_
  rintro _ h9 ⟨rfl, K9⟩
  simp (disch := omega) only [wk, wt, wl, ↓reduceIte, Nat.reduceEqDiff, Nat.reduceAdd, Nat.zero_add, not_false_eq_true, not_true_eq_false, dK_t, hr]
  first
    | exact ⟨K9.reads (Ch.wf K08), K08.trans K9⟩
    | exact K08.trans K9
end Go.Proofs.Ytgfccaaalkkdlaa.Am
end
section
/- The first statements of the seventeenth chapter, told of abstract memory: FoldShows and FoldRows answer true. -/
set_option linter.unusedSimpArgs false
set_option linter.unusedVariables false
set_option maxHeartbeats 4000000
set_option maxRecDepth 20000
namespace Go.Proofs.Ytgfccaaalkkdlaa.Am
open Go Go.RowKit Go.Proofs.Try
theorem rowsN_ok {v : Value} {l : List F} {n : Int} {h : Heap} (R : FR h v l) (hl : l.length ≤ 9223372036854775807) (hr : rightB l = false) : ACalls prog 16 #[v, .int .i64 n] h (fun y h' => y = .slice none 0 0 ∧ Keeps h h') := by
  refine acalls_of_W' func16 rfl (by kernel_rfl) (by kernel_rfl) (by simp [ntmps16]) ?_
  intro H
  simp only [wk, wt, wl, ↓reduceIte, Nat.reduceEqDiff, Nat.reduceAdd, Nat.zero_add, not_false_eq_true, not_true_eq_false]
  refine (right_ok R hl).use ?_
  rintro _ h2 ⟨rfl, K2⟩
  simp only [wk, wt, wl, ↓reduceIte, Nat.reduceEqDiff, Nat.reduceAdd, Nat.zero_add, not_false_eq_true, not_true_eq_false, hr, Bool.not_false]
  exact K2
theorem refRowsN_ok {v : Value} {l : List F} {n : Int} {h : Heap} (R : FR h v l) (hl : l.length ≤ 9223372036854775807) (hr : rightB l = false) : ACalls prog 17 #[v, .int .i64 n] h (fun y h' => y = .slice none 0 0 ∧ h' = h) := by
  refine acalls_of_W func17 rfl (by kernel_rfl) (by kernel_rfl) (by simp [ntmps17]) ?_
  simp only [wk, wt, wl, ↓reduceIte, Nat.reduceEqDiff, Nat.reduceAdd, Nat.zero_add, not_false_eq_true, not_true_eq_false]
  refine (refRight_ok R hl).use_pure ?_
  simp only [wk, wt, wl, ↓reduceIte, Nat.reduceEqDiff, Nat.reduceAdd, Nat.zero_add, not_false_eq_true, not_true_eq_false, hr, Bool.not_false]
theorem foldShows_law {v : Value} {l : List F} {x n : Int} {h : Heap} (R : FR h v l) (hl : l.length ≤ 9223372036854775807) (hn0 : -9223372036854775808 ≤ n) : ACalls prog 3 #[v, .int .i64 x, .int .i64 n] h (fun y h' => y = .bool true ∧ Keeps h h') := by
  refine acalls_of_W' func3 rfl (by kernel_rfl) (by kernel_rfl) (by simp [ntmps3]) ?_
  intro H
  simp only [wk, wt, wl, ↓reduceIte, Nat.reduceEqDiff, Nat.reduceAdd, Nat.zero_add, not_false_eq_true, not_true_eq_false]
  refine (near_ok R hl).use_pure ?_
  cases hnb : nearB l x with
  | false =>
    simp only [wk, wt, wl, ↓reduceIte, Nat.reduceEqDiff, Nat.reduceAdd, Nat.zero_add, not_false_eq_true, not_true_eq_false, Bool.not_false]
    exact Keeps.refl H
  | true =>
    have hn : nearF l = true ∧ x ≤ 1099511627776 ∧ -1099511627776 ≤ x := by simpa [nearB] using hnb
    obtain ⟨hn, hx1, hx2⟩ := hn
    by_cases h3 : 3000 < n
    · have d1 : decide (3000 < n) = true := decide_eq_true h3
      simp only [wk, wt, wl, ↓reduceIte, Nat.reduceEqDiff, Nat.reduceAdd, Nat.zero_add, not_false_eq_true, not_true_eq_false, Bool.not_true, d1]
      exact Keeps.refl H
    · have d1 : decide (3000 < n) = false := decide_eq_false h3
      simp only [wk, wt, wl, ↓reduceIte, Nat.reduceEqDiff, Nat.reduceAdd, Nat.zero_add, not_false_eq_true, not_true_eq_false, Bool.not_true, d1]
      refine (head_ok R hl).use ?_
      rintro _ h2 ⟨rfl, K2⟩
      simp only [wk, wt, wl, ↓reduceIte, Nat.reduceEqDiff, Nat.reduceAdd, Nat.zero_add, not_false_eq_true, not_true_eq_false]
      refine (refHead_ok (RS.keeps R K2) hl).use_pure ?_
      simp only [wk, wt, wl, ↓reduceIte, Nat.reduceEqDiff, Nat.reduceAdd, Nat.zero_add, not_false_eq_true, not_true_eq_false, decide_true]
      refine (next_ok (RS.keeps R K2) hl hn (by omega)).use ?_
      rintro _ h3 ⟨rfl, K3⟩
      have K03 := K2.trans K3
      simp only [wk, wt, wl, ↓reduceIte, Nat.reduceEqDiff, Nat.reduceAdd, Nat.zero_add, not_false_eq_true, not_true_eq_false]
      refine (refNext_ok (RS.keeps R K03) hl hn (by omega)).use_pure ?_
      simp only [wk, wt, wl, ↓reduceIte, Nat.reduceEqDiff, Nat.reduceAdd, Nat.zero_add, not_false_eq_true, not_true_eq_false, decide_true]
      refine (prev_ok (RS.keeps R K03) hl hn (by omega)).use ?_
      rintro _ h4 ⟨rfl, K4⟩
      have K04 := K03.trans K4
      simp only [wk, wt, wl, ↓reduceIte, Nat.reduceEqDiff, Nat.reduceAdd, Nat.zero_add, not_false_eq_true, not_true_eq_false]
      refine (refPrev_ok (RS.keeps R K04) hl hn (by omega)).use_pure ?_
      simp only [wk, wt, wl, ↓reduceIte, Nat.reduceEqDiff, Nat.reduceAdd, Nat.zero_add, not_false_eq_true, not_true_eq_false, decide_true]
      cases hr : rightB l with
      | false =>
        refine (rowsN_ok (RS.keeps R K04) hl hr).use ?_
        rintro _ h5 ⟨rfl, K5⟩
        have K05 := K04.trans K5
        simp only [wk, wt, wl, ↓reduceIte, Nat.reduceEqDiff, Nat.reduceAdd, Nat.zero_add, not_false_eq_true, not_true_eq_false]
        refine (refRowsN_ok (RS.keeps R K05) hl hr).use_pure ?_
        simp only [wk, wt, wl, ↓reduceIte, Nat.reduceEqDiff, Nat.reduceAdd, Nat.zero_add, not_false_eq_true, not_true_eq_false]
        refine (sameF_ok (l := []) Rd.nil0 Rd.nil0 (by simp)).use_pure ?_
        simp only [wk, wt, wl, ↓reduceIte, Nat.reduceEqDiff, Nat.reduceAdd, Nat.zero_add, not_false_eq_true, not_true_eq_false]
        refine awake_ok.use ?_
        rintro _ h6 ⟨rfl, K6⟩
        simp only [wk, wt, wl, ↓reduceIte, Nat.reduceEqDiff, Nat.reduceAdd, Nat.zero_add, not_false_eq_true, not_true_eq_false]
        exact K05.trans K6
      | true =>
        refine (rows_ok (RS.keeps R K04) hl hn (by omega) hr).use ?_
        rintro y5 h5 ⟨r, hr5, R5, hl5, K5⟩
        have K05 := K04.trans K5
        simp only [wk, wt, wl, ↓reduceIte, Nat.reduceEqDiff, Nat.reduceAdd, Nat.zero_add, not_false_eq_true, not_true_eq_false]
        refine (refRows_ok (RS.keeps R K05) hl hn (by omega) hr).use ?_
        rintro y6 h6 ⟨r', hr6, R6, _, K6⟩
        obtain rfl := hr5.det hr6
        have K06 := K05.trans K6
        simp only [wk, wt, wl, ↓reduceIte, Nat.reduceEqDiff, Nat.reduceAdd, Nat.zero_add, not_false_eq_true, not_true_eq_false]
        refine (sameF_ok (RS.keeps R5 K6) R6 (by omega)).use_pure ?_
        simp only [wk, wt, wl, ↓reduceIte, Nat.reduceEqDiff, Nat.reduceAdd, Nat.zero_add, not_false_eq_true, not_true_eq_false]
        refine awake_ok.use ?_
        rintro _ h7 ⟨rfl, K7⟩
        simp only [wk, wt, wl, ↓reduceIte, Nat.reduceEqDiff, Nat.reduceAdd, Nat.zero_add, not_false_eq_true, not_true_eq_false]
        exact K06.trans K7
end Go.Proofs.Ytgfccaaalkkdlaa.Am
end
section
/- FoldRows, told of abstract memory: it answers true. -/
set_option linter.unusedSimpArgs false
set_option linter.unusedVariables false
set_option maxHeartbeats 4000000
set_option maxRecDepth 20000
namespace Go.Proofs.Ytgfccaaalkkdlaa.Am
open Go Go.RowKit Go.Proofs.Try
theorem shut_in {l : List F} (hr : rightB l = true) {k : Nat} {f : F} (hx : l[k]? = some f) (hc : f.cl = true) {x : Int} (h1 : f.fr ≤ x) (h2 : x ≤ f.to) : shutF l x = some k ∧ shownZ l x = (f.fr, f.to) := by
  obtain ⟨r1, r2, _⟩ := rightB_at hr
  have hin : inF l x = some k := by
    rw [inF_find hr (x := x) (i := k) (fun j g hj hg => by have := r2 j k g f hj hg hx; omega) (fun g hg => by rw [hx] at hg; cases hg; omega), hx]
    simp [h1]
  have hs : shutF l x = some k := by simp [shutF, hin, hx, hc]
  exact ⟨hs, by simp [shownZ, hr, hs, hx]⟩
/-- Behind what is shown with a line a row begins. -/
theorem head_next {l : List F} (hr : rightB l = true) {x : Int} (hx : (shownZ l x).1 = x) : (shownZ l ((shownZ l x).2 + 1)).1 = (shownZ l x).2 + 1 := by
  obtain ⟨r1, r2, _⟩ := rightB_at hr
  rcases shownZ_range (l := l) (x := (shownZ l x).2 + 1) with e | ⟨k', g, hs', _, hg, hgc, g1, g2, e⟩
  · rw [e]
  · rw [e]
    simp only
    rcases shownZ_range (l := l) (x := x) with e0 | ⟨k, f, hs, _, hf, hfc, f1, f2, e0⟩
    · rw [e0] at g1 g2 ⊢
      simp only at g1 g2 ⊢
      by_cases hle : g.fr ≤ x
      · have := (shut_in hr hg hgc hle (by omega)).2
        rw [e0] at this
        simp only [Prod.mk.injEq] at this; omega
      · omega
    · rw [e0] at g1 g2 ⊢
      simp only at g1 g2 ⊢
      rcases Nat.lt_trichotomy k' k with h | h | h
      · have := r2 k' k g f h hg hf; have := r1 k f hf; omega
      · subst h; rw [hf] at hg; cases hg; omega
      · have := r2 k k' f g h hf hg; omega
theorem rows_head {l : List F} (hr : rightB l = true) {n i : Int} {e : F} {r : List F} (hi : 0 ≤ i) (hh : (shownZ l i).1 = i) (R : RowsR l n i (e :: r)) :
    e.fr = i ∧ i ≤ e.to ∧ e.to < n ∧ (e.cl = false → e.to = i) ∧ (shownZ l e.to).1 = i ∧ (r ≠ [] → nextZ1 l i = e.to + 1 ∧ RowsR l n (e.to + 1) r ∧ (shownZ l (e.to + 1)).1 = e.to + 1 ∧ prevZ l (e.to + 1) = i) ∧ (r = [] → e.to + 1 = n) := by
  cases R with
  | step h t =>
    have hn := head_next hr hh
    have hnx : nextZ1 l i = (shownZ l i).2 + 1 := rfl
    have end_ : r = [] → ¬ nextZ1 l i < n := fun e => by subst e; cases t with | done g => exact g
    have more : r ≠ [] → nextZ1 l i < n := fun e => by
      cases t with
      | done _ => exact absurd rfl e
      | step g _ => exact g
    rcases shownZ_range (l := l) (x := i) with e0 | ⟨k, f, hs, _, hf, hfc, f1, f2, e0⟩
    · rw [e0] at hnx hn
      simp only at hnx hn
      rw [hnx] at t end_ more ⊢
      simp only
      rw [if_neg (by omega)]
      have e1 : i + 1 - 1 = i := by omega
      rw [e1]
      refine ⟨trivial, by omega, h, fun _ => rfl, hh, fun hne => ⟨rfl, t, hn, ?_⟩, fun he => by have := end_ he; omega⟩
      unfold prevZ
      rw [hn, if_pos (by omega), e1, hh]
    · rw [e0] at hnx hn hh
      simp only at hnx hn hh
      rw [hnx] at t end_ more ⊢
      simp only
      have hin : ∀ x, f.fr ≤ x → x ≤ f.to → (shownZ l x).1 = i := fun x h1 h2 => by rw [(shut_in hr hf hfc h1 h2).2]; exact hh
      have hcl : ((shutF l i).isSome = false) → False := fun e => by rw [hs] at e; cases e
      refine ⟨trivial, by split <;> omega, by split <;> omega, fun e => (hcl e).elim, hin _ (by split <;> omega) (by split <;> omega), fun hne => ?_, fun he => by have := end_ he; split <;> omega⟩
      have := more hne
      rw [if_neg (by omega)]
      have e1 : f.to + 1 - 1 = f.to := by omega
      rw [e1]
      refine ⟨rfl, t, hn, ?_⟩
      unfold prevZ
      rw [hn, if_pos (by omega), e1]
      exact hin _ (by omega) (by omega)
theorem foldRows_law {v : Value} {l : List F} {n : Int} {h : Heap} (R : FR h v l) (hl : l.length ≤ 9223372036854775807) : ACalls prog 5 #[v, .int .i64 n] h (fun y h' => y = .bool true ∧ Keeps h h') := by
  refine acalls_of_W' func5 rfl (by kernel_rfl) (by kernel_rfl) (by simp [ntmps5]) ?_
  intro H
  simp only [wk, wt, wl, ↓reduceIte, Nat.reduceEqDiff, Nat.reduceAdd, Nat.zero_add, not_false_eq_true, not_true_eq_false]
  refine (refRight_ok R hl).use_pure ?_
  cases hr : rightB l with
  | false =>
    simp only [wk, wt, wl, ↓reduceIte, Nat.reduceEqDiff, Nat.reduceAdd, Nat.zero_add, not_false_eq_true, not_true_eq_false, Bool.not_false]
    refine awake_ok.use ?_
    rintro _ h2 ⟨rfl, K2⟩
    simp only [wk, wt, wl, ↓reduceIte, Nat.reduceEqDiff, Nat.reduceAdd, Nat.zero_add, not_false_eq_true, not_true_eq_false]
    exact K2
  | true =>
    simp only [wk, wt, wl, ↓reduceIte, Nat.reduceEqDiff, Nat.reduceAdd, Nat.zero_add, not_false_eq_true, not_true_eq_false, Bool.not_true]
    refine (near_ok R hl).use_pure ?_
    cases hnb : nearB l n with
    | false =>
      simp only [wk, wt, wl, ↓reduceIte, Nat.reduceEqDiff, Nat.reduceAdd, Nat.zero_add, not_false_eq_true, not_true_eq_false, Bool.not_false]
      refine awake_ok.use ?_
      rintro _ h2 ⟨rfl, K2⟩
      simp only [wk, wt, wl, ↓reduceIte, Nat.reduceEqDiff, Nat.reduceAdd, Nat.zero_add, not_false_eq_true, not_true_eq_false]
      exact K2
    | true =>
      have hn : nearF l = true ∧ n ≤ 1099511627776 ∧ -1099511627776 ≤ n := by simpa [nearB] using hnb
      obtain ⟨hn, hx1, hx2⟩ := hn
      obtain ⟨r1, r2, r3⟩ := rightB_at hr
      by_cases h1 : n < 1
      · have d1 : decide (n < 1) = true := decide_eq_true h1
        simp only [wk, wt, wl, ↓reduceIte, Nat.reduceEqDiff, Nat.reduceAdd, Nat.zero_add, not_false_eq_true, not_true_eq_false, Bool.not_true, d1]
        refine awake_ok.use ?_
        rintro _ h2 ⟨rfl, K2⟩
        simp only [wk, wt, wl, ↓reduceIte, Nat.reduceEqDiff, Nat.reduceAdd, Nat.zero_add, not_false_eq_true, not_true_eq_false]
        exact K2
      · have d1 : decide (n < 1) = false := decide_eq_false h1
        by_cases h3 : 3000 < n
        · have d2 : decide (3000 < n) = true := decide_eq_true h3
          simp only [wk, wt, wl, ↓reduceIte, Nat.reduceEqDiff, Nat.reduceAdd, Nat.zero_add, not_false_eq_true, not_true_eq_false, Bool.not_true, d1, d2]
          refine awake_ok.use ?_
          rintro _ h2 ⟨rfl, K2⟩
          simp only [wk, wt, wl, ↓reduceIte, Nat.reduceEqDiff, Nat.reduceAdd, Nat.zero_add, not_false_eq_true, not_true_eq_false]
          exact K2
        · have d2 : decide (3000 < n) = false := decide_eq_false h3
          simp only [wk, wt, wl, ↓reduceIte, Nat.reduceEqDiff, Nat.reduceAdd, Nat.zero_add, not_false_eq_true, not_true_eq_false, Bool.not_true, d1, d2]
          refine (rows_ok R hl hn (by omega) hr).use ?_
          rintro rv h2 ⟨r, hrows, RR, hrl, K2⟩
          have h00 : (shownZ l 0).1 = 0 := by
            rcases shownZ_range (l := l) (x := 0) with e | ⟨k, f, _, _, hf, _, g1, _, e⟩
            · rw [e]
            · rw [e]; have := r1 k f hf; simp only; omega
          have hp0 : prevZ l 0 = -1 := by unfold prevZ; rw [h00]; simp
          have hne0 : r ≠ [] := by
            rintro rfl
            cases hrows with | done g => omega
          simp only [wk, wt, wl, ↓reduceIte, Nat.reduceEqDiff, Nat.reduceAdd, Nat.zero_add, not_false_eq_true, not_true_eq_false]
          refine W_loop (fun tm h' => Keeps h h' ∧ tm 0 = v ∧ tm 1 = .int .i64 n ∧ tm 5 = rv ∧ FR h' rv r ∧ ∃ (k : Nat) (i la : Int), tm 8 = .int .i64 k ∧ tm 6 = .int .i64 i ∧ tm 7 = .int .i64 la ∧ k ≤ r.length ∧ 0 ≤ i ∧ i ≤ 3000 ∧
              (r.drop k ≠ [] → RowsR l n i (r.drop k) ∧ (shownZ l i).1 = i ∧ prevZ l i = la) ∧ (r.drop k = [] → i = n)) (fun tm _ => (r.length - intOf (tm 8)).toNat)
            ⟨K2, (by first | rfl | (simp only [wk, wt, wl, ↓reduceIte, Nat.reduceEqDiff, Nat.reduceAdd, Nat.zero_add, not_false_eq_true, not_true_eq_false]; done) | (simp only [wk, wt, wl, ↓reduceIte, Nat.reduceEqDiff, Nat.reduceAdd, Nat.zero_add, not_false_eq_true, not_true_eq_false]; rfl)), (by first | rfl | (simp only [wk, wt, wl, ↓reduceIte, Nat.reduceEqDiff, Nat.reduceAdd, Nat.zero_add, not_false_eq_true, not_true_eq_false]; done) | (simp only [wk, wt, wl, ↓reduceIte, Nat.reduceEqDiff, Nat.reduceAdd, Nat.zero_add, not_false_eq_true, not_true_eq_false]; rfl)), (by first | rfl | (simp only [wk, wt, wl, ↓reduceIte, Nat.reduceEqDiff, Nat.reduceAdd, Nat.zero_add, not_false_eq_true, not_true_eq_false]; done) | (simp only [wk, wt, wl, ↓reduceIte, Nat.reduceEqDiff, Nat.reduceAdd, Nat.zero_add, not_false_eq_true, not_true_eq_false]; rfl)), RR, 0, 0, -1, (by first | rfl | (simp only [wk, wt, wl, ↓reduceIte, Nat.reduceEqDiff, Nat.reduceAdd, Nat.zero_add, not_false_eq_true, not_true_eq_false]; done) | (simp only [wk, wt, wl, ↓reduceIte, Nat.reduceEqDiff, Nat.reduceAdd, Nat.zero_add, not_false_eq_true, not_true_eq_false]; rfl)), (by first | rfl | (simp only [wk, wt, wl, ↓reduceIte, Nat.reduceEqDiff, Nat.reduceAdd, Nat.zero_add, not_false_eq_true, not_true_eq_false]; done) | (simp only [wk, wt, wl, ↓reduceIte, Nat.reduceEqDiff, Nat.reduceAdd, Nat.zero_add, not_false_eq_true, not_true_eq_false]; rfl)), (by first | rfl | (simp only [wk, wt, wl, ↓reduceIte, Nat.reduceEqDiff, Nat.reduceAdd, Nat.zero_add, not_false_eq_true, not_true_eq_false]; done) | (simp only [wk, wt, wl, ↓reduceIte, Nat.reduceEqDiff, Nat.reduceAdd, Nat.zero_add, not_false_eq_true, not_true_eq_false]; rfl)), by omega, by omega, by omega, fun _ => ⟨hrows, h00, hp0⟩, fun e => absurd e hne0⟩ ?_
          clear K2 RR
          rintro tm h' ⟨K, t0, t1, t5, RR, k, i, la, t8, t6, t7, hk, hi0, hi1, hA, hB⟩
          simp only [wk, wt, wl, ↓reduceIte, Nat.reduceEqDiff, Nat.reduceAdd, Nat.zero_add, not_false_eq_true, not_true_eq_false, t0, t1, t5, t6, t7, t8, RR.len underlying22]
          refine condK_dec (fun hd => ?_) (fun hd => ?_)
          · have hk1 : k < r.length := by omega
            obtain ⟨f, hx⟩ : ∃ f, r[k]? = some f := ⟨r[k], by simp [hk1]⟩
            obtain ⟨F0, F1, F2, F3⟩ := RR.flds hx
            have IX := Rd.index RR underlying22 asz36 (q := .i64) (i := (k : Int)) (by omega) (by omega)
            simp only [Int.toNat_natCast] at IX
            have hdr := dropAt hx
            obtain ⟨hR, hhd, hpv⟩ := hA (by rw [hdr]; simp)
            rw [hdr] at hR
            obtain ⟨q0, q1, q2, q3, q4, q5, q6⟩ := rows_head hr hi0 hhd hR
            simp (disch := omega) only [wk, wt, wl, ↓reduceIte, Nat.reduceEqDiff, Nat.reduceAdd, Nat.zero_add, not_false_eq_true, not_true_eq_false, t0, t1, t5, t6, t7, t8, IX, F3]
            have K3 := Keeps.new (Ch.wf K) 36 [Value.int IntKind.i64 0, Value.int IntKind.i64 0, Value.bool false]
            have V3 := Var.new (e := 36) (Ch.wf K) (cs := [Value.int IntKind.i64 0, Value.int IntKind.i64 0, Value.bool false])
            obtain ⟨h4, e4, V4, C4, z4⟩ := V3.store (P := prog) (t := 36) (v := .agg #[.int .i64 f.fr, .int .i64 f.to, .bool f.cl]) (i := 0) (Ch.wf K3) asz36 (by simp [Value.cells]) (by simp [Value.cells, one])
            rw [e4]; clear e4
            simp only [Value.cells, over_all (xs := [Value.int IntKind.i64 0, Value.int IntKind.i64 0, Value.bool false]) (vs := [.int .i64 f.fr, .int .i64 f.to, .bool f.cl]) rfl] at V4
            have K14 := K3.step C4 (fun b hb => by omega)
            have K4 := K.trans K14
            have WW := fun {hh : Heap} {a b : Int} {cl : Bool} (V : Var hh h'.size [.int .i64 a, .int .i64 b, .bool cl]) => And.intro (V.load1 (P := prog) (t := 3) underlying3 rfl (i := 0)) (And.intro (V.load1 (P := prog) (t := 3) underlying3 rfl (i := 1)) (V.load1 (P := prog) (t := 4) underlying4 rfl (i := 2)))
            simp only [List.getElem?_cons_succ, List.getElem?_cons_zero] at WW
            have R4 : FR h4 v l := RS.keeps R K4
            have dI : decide (¬ i = i) = false := decide_eq_false (by simp)
            have dL : decide (¬ la = la) = false := decide_eq_false (by simp)
            have dT : decide (f.to < i) = false := decide_eq_false (by omega)
            have dn : decide (n ≤ f.to) = false := decide_eq_false (by omega)
            rw [q0] at V4
            simp (disch := omega) only [wk, wt, wl, ↓reduceIte, Nat.reduceEqDiff, Nat.reduceAdd, Nat.zero_add, not_false_eq_true, not_true_eq_false]
            refine adraw_order [(0, false), (1, false), (2, false), (3, false), (4, false), (5, false), (6, false), (7, false), (8, false), (9, false), (10, false), (11, false), (12, false), (13, false), (14, false), (15, false), (16, false), (17, false), (18, false), (19, false), (20, false), (21, false), (22, false), (23, false), (24, false), (25, false), (26, false), (27, false), (28, false), (29, false), (30, false), (31, false), (32, false), (34, false), (35, false), (33, true), (36, false), (37, false), (38, false), (39, false), (40, false), (41, false), (43, false), (42, true), (44, false), (45, false)] mixed (by kernel_rfl) (by kernel_rfl) (by kernel_rfl) (by with_reducible repeat (first | exact PF_retK | refine PF_thenK ?_ | refine PF_blockK ?_)) ?_
            cases hcl : f.cl with
            | true =>
              rw [hcl] at V4
              simp (disch := omega) only [wk, wt, wl, ↓reduceIte, Nat.reduceEqDiff, Nat.reduceAdd, Nat.zero_add, not_false_eq_true, not_true_eq_false, dK_t, t0, t1, t5, t6, t7, t8, WW V4, dI, dT, dn, Bool.not_true]
              refine (head_ok R4 hl).use ?_
              rintro _ h5 ⟨rfl, K5⟩
              rw [q4]
              have V5 := Keeps.var (Ch.wf K4) K5 V4
              have K05 := K4.trans K5
              simp (disch := omega) only [wk, wt, wl, ↓reduceIte, Nat.reduceEqDiff, Nat.reduceAdd, Nat.zero_add, not_false_eq_true, not_true_eq_false, dK_t, t0, t1, t5, t6, t7, t8, WW V5, dI]
              refine ⟨K5.reads (Ch.wf K4), ?_⟩
              refine (prev_ok (RS.keeps R4 K5) hl hn (by omega)).use ?_
              rintro _ h6 ⟨rfl, K6⟩
              rw [hpv]
              have V6 := Keeps.var (Ch.wf K05) K6 V5
              have K06 := K05.trans K6
              simp (disch := omega) only [wk, wt, wl, ↓reduceIte, Nat.reduceEqDiff, Nat.reduceAdd, Nat.zero_add, not_false_eq_true, not_true_eq_false, dK_t, t0, t1, t5, t6, t7, t8, WW V6, dL]
              refine ⟨K6.reads (Ch.wf K05), ?_⟩
              have RR6 : FR h6 rv r := RS.keeps RR (K14.trans (K5.trans K6))
              have L6 := RR6.len underlying22
              refine adraw_order [(0, false), (1, false), (2, false), (3, false), (4, false), (5, false), (6, false), (7, false), (8, false), (10, false), (11, false), (12, false), (9, true), (13, false), (14, false)] mixed (by kernel_rfl) (by kernel_rfl) (by kernel_rfl) (by with_reducible repeat (first | exact PF_retK | refine PF_thenK ?_ | refine PF_blockK ?_)) ?_
              by_cases hlast : k + 1 < r.length
              · have dm : decide ((k : Int) + 1 < r.length) = true := decide_eq_true (by omega)
                have hne : r.drop (k + 1) ≠ [] := fun e => by have := congrArg List.length e; simp at this; omega
                obtain ⟨s1, s2, s3, s4⟩ := q5 hne
                have hsb := shownZ_in hn (x := i) (by omega)
                simp (disch := omega) only [wk, wt, wl, ↓reduceIte, Nat.reduceEqDiff, Nat.reduceAdd, Nat.zero_add, not_false_eq_true, not_true_eq_false, dK_t, t0, t1, t5, t6, t7, t8, WW V6, L6, IntWalk.i64_in, dm]
                repeat (refine ⟨Reads.refl _, ?_⟩)
                refine (next_ok (RS.keeps R4 (K5.trans K6)) hl hn (by omega)).use ?_
                rintro _ h7 ⟨rfl, K7⟩
                have s1' : (shownZ l i).2 + 1 = f.to + 1 := s1
                rw [s1']
                have V7 := Keeps.var (Ch.wf K06) K7 V6
                have K07 := K06.trans K7
                have dN : decide (¬ f.to + 1 = f.to + 1) = false := decide_eq_false (by simp)
                simp (disch := omega) only [wk, wt, wl, ↓reduceIte, Nat.reduceEqDiff, Nat.reduceAdd, Nat.zero_add, not_false_eq_true, not_true_eq_false, dK_t, t0, t1, t5, t6, t7, t8, WW V7, dN, IntWalk.i64_in]
                refine ⟨K7.reads (Ch.wf K06), ?_⟩
                refine adraw_order [(0, false), (1, false), (2, false), (3, false), (4, false), (5, false), (6, false)] mixed (by kernel_rfl) (by kernel_rfl) (by kernel_rfl) (by with_reducible repeat (first | exact PF_retK | refine PF_thenK ?_ | refine PF_blockK ?_)) ?_
                simp (disch := omega) only [wk, wt, wl, ↓reduceIte, Nat.reduceEqDiff, Nat.reduceAdd, Nat.zero_add, not_false_eq_true, not_true_eq_false, t0, t1, t5, t6, t7, t8, WW V7, IntWalk.i64_in, intOf_int]
                exact ⟨⟨K07, RS.keeps RR6 K7, k + 1, f.to + 1, i, by simp, rfl, rfl, by omega, by omega, by omega, fun _ => ⟨s2, s3, s4⟩, fun e => absurd e hne⟩, by omega⟩
              · have dm : decide ((k : Int) + 1 < r.length) = false := decide_eq_false (by omega)
                have he : r.drop (k + 1) = [] := List.drop_of_length_le (by omega)
                have := q6 he
                simp (disch := omega) only [wk, wt, wl, ↓reduceIte, Nat.reduceEqDiff, Nat.reduceAdd, Nat.zero_add, not_false_eq_true, not_true_eq_false, dK_t, t0, t1, t5, t6, t7, t8, WW V6, L6, IntWalk.i64_in, dm]
                repeat (refine ⟨Reads.refl _, ?_⟩)
                refine adraw_order [(0, false), (1, false), (2, false), (3, false), (4, false), (5, false), (6, false)] mixed (by kernel_rfl) (by kernel_rfl) (by kernel_rfl) (by with_reducible repeat (first | exact PF_retK | refine PF_thenK ?_ | refine PF_blockK ?_)) ?_
                simp (disch := omega) only [wk, wt, wl, ↓reduceIte, Nat.reduceEqDiff, Nat.reduceAdd, Nat.zero_add, not_false_eq_true, not_true_eq_false, t0, t1, t5, t6, t7, t8, WW V6, IntWalk.i64_in, intOf_int]
                exact ⟨⟨K06, RR6, k + 1, f.to + 1, i, by simp, rfl, rfl, by omega, by omega, by omega, fun e => absurd he e, fun _ => this⟩, by omega⟩
            | false =>
              rw [hcl] at V4
              have dE : decide (¬ f.to = i) = false := decide_eq_false (by have := q3 hcl; simp [this])
              simp (disch := omega) only [wk, wt, wl, ↓reduceIte, Nat.reduceEqDiff, Nat.reduceAdd, Nat.zero_add, not_false_eq_true, not_true_eq_false, dK_t, t0, t1, t5, t6, t7, t8, WW V4, dI, dT, dn, dE, Bool.not_false]
              refine (head_ok R4 hl).use ?_
              rintro _ h5 ⟨rfl, K5⟩
              rw [q4]
              have V5 := Keeps.var (Ch.wf K4) K5 V4
              have K05 := K4.trans K5
              simp (disch := omega) only [wk, wt, wl, ↓reduceIte, Nat.reduceEqDiff, Nat.reduceAdd, Nat.zero_add, not_false_eq_true, not_true_eq_false, dK_t, t0, t1, t5, t6, t7, t8, WW V5, dI]
              refine ⟨K5.reads (Ch.wf K4), ?_⟩
              refine (prev_ok (RS.keeps R4 K5) hl hn (by omega)).use ?_
              rintro _ h6 ⟨rfl, K6⟩
              rw [hpv]
              have V6 := Keeps.var (Ch.wf K05) K6 V5
              have K06 := K05.trans K6
              simp (disch := omega) only [wk, wt, wl, ↓reduceIte, Nat.reduceEqDiff, Nat.reduceAdd, Nat.zero_add, not_false_eq_true, not_true_eq_false, dK_t, t0, t1, t5, t6, t7, t8, WW V6, dL]
              refine ⟨K6.reads (Ch.wf K05), ?_⟩
              have RR6 : FR h6 rv r := RS.keeps RR (K14.trans (K5.trans K6))
              have L6 := RR6.len underlying22
              refine adraw_order [(0, false), (1, false), (2, false), (3, false), (4, false), (5, false), (6, false), (7, false), (8, false), (10, false), (11, false), (12, false), (9, true), (13, false), (14, false)] mixed (by kernel_rfl) (by kernel_rfl) (by kernel_rfl) (by with_reducible repeat (first | exact PF_retK | refine PF_thenK ?_ | refine PF_blockK ?_)) ?_
              by_cases hlast : k + 1 < r.length
              · have dm : decide ((k : Int) + 1 < r.length) = true := decide_eq_true (by omega)
                have hne : r.drop (k + 1) ≠ [] := fun e => by have := congrArg List.length e; simp at this; omega
                obtain ⟨s1, s2, s3, s4⟩ := q5 hne
                have hsb := shownZ_in hn (x := i) (by omega)
                simp (disch := omega) only [wk, wt, wl, ↓reduceIte, Nat.reduceEqDiff, Nat.reduceAdd, Nat.zero_add, not_false_eq_true, not_true_eq_false, dK_t, t0, t1, t5, t6, t7, t8, WW V6, L6, IntWalk.i64_in, dm]
                repeat (refine ⟨Reads.refl _, ?_⟩)
                refine (next_ok (RS.keeps R4 (K5.trans K6)) hl hn (by omega)).use ?_
                rintro _ h7 ⟨rfl, K7⟩
                have s1' : (shownZ l i).2 + 1 = f.to + 1 := s1
                rw [s1']
                have V7 := Keeps.var (Ch.wf K06) K7 V6
                have K07 := K06.trans K7
                have dN : decide (¬ f.to + 1 = f.to + 1) = false := decide_eq_false (by simp)
                simp (disch := omega) only [wk, wt, wl, ↓reduceIte, Nat.reduceEqDiff, Nat.reduceAdd, Nat.zero_add, not_false_eq_true, not_true_eq_false, dK_t, t0, t1, t5, t6, t7, t8, WW V7, dN, IntWalk.i64_in]
                refine ⟨K7.reads (Ch.wf K06), ?_⟩
                refine adraw_order [(0, false), (1, false), (2, false), (3, false), (4, false), (5, false), (6, false)] mixed (by kernel_rfl) (by kernel_rfl) (by kernel_rfl) (by with_reducible repeat (first | exact PF_retK | refine PF_thenK ?_ | refine PF_blockK ?_)) ?_
                simp (disch := omega) only [wk, wt, wl, ↓reduceIte, Nat.reduceEqDiff, Nat.reduceAdd, Nat.zero_add, not_false_eq_true, not_true_eq_false, t0, t1, t5, t6, t7, t8, WW V7, IntWalk.i64_in, intOf_int]
                exact ⟨⟨K07, RS.keeps RR6 K7, k + 1, f.to + 1, i, by simp, rfl, rfl, by omega, by omega, by omega, fun _ => ⟨s2, s3, s4⟩, fun e => absurd e hne⟩, by omega⟩
              · have dm : decide ((k : Int) + 1 < r.length) = false := decide_eq_false (by omega)
                have he : r.drop (k + 1) = [] := List.drop_of_length_le (by omega)
                have := q6 he
                simp (disch := omega) only [wk, wt, wl, ↓reduceIte, Nat.reduceEqDiff, Nat.reduceAdd, Nat.zero_add, not_false_eq_true, not_true_eq_false, dK_t, t0, t1, t5, t6, t7, t8, WW V6, L6, IntWalk.i64_in, dm]
                repeat (refine ⟨Reads.refl _, ?_⟩)
                refine adraw_order [(0, false), (1, false), (2, false), (3, false), (4, false), (5, false), (6, false)] mixed (by kernel_rfl) (by kernel_rfl) (by kernel_rfl) (by with_reducible repeat (first | exact PF_retK | refine PF_thenK ?_ | refine PF_blockK ?_)) ?_
                simp (disch := omega) only [wk, wt, wl, ↓reduceIte, Nat.reduceEqDiff, Nat.reduceAdd, Nat.zero_add, not_false_eq_true, not_true_eq_false, t0, t1, t5, t6, t7, t8, WW V6, IntWalk.i64_in, intOf_int]
                exact ⟨⟨K06, RR6, k + 1, f.to + 1, i, by simp, rfl, rfl, by omega, by omega, by omega, fun e => absurd he e, fun _ => this⟩, by omega⟩
          · have he : r.drop k = [] := List.drop_of_length_le (by omega)
            have hin := hB he
            have dn : decide (i = n) = true := decide_eq_true hin
            simp only [wk, wt, wl, ↓reduceIte, Nat.reduceEqDiff, Nat.reduceAdd, Nat.zero_add, not_false_eq_true, not_true_eq_false, t6, t1, dn]
            refine awake_ok.use ?_
            rintro _ h5 ⟨rfl, K5⟩
            simp only [wk, wt, wl, ↓reduceIte, Nat.reduceEqDiff, Nat.reduceAdd, Nat.zero_add, not_false_eq_true, not_true_eq_false]
            exact K.trans K5
end Go.Proofs.Ytgfccaaalkkdlaa.Am
end
section
/- Folds behind a change: the contract of the document's Adjust, by a walk; that folds stay right. -/
set_option linter.unusedSimpArgs false
set_option linter.unusedVariables false
set_option maxHeartbeats 4000000
set_option maxRecDepth 20000
namespace Go.Proofs.Ytgfccaaalkkdlaa.Am
open Go Go.RowKit Go.Proofs.Try
/-- Right folds stay right behind a change. -/
theorem adj_range {c o n : Int} (hc : 0 ≤ c) (ho : 0 ≤ o) (hn : 0 ≤ n) {f g : F} (hf : 0 ≤ f.fr ∧ f.fr < f.to) (h : adjF c o n f = some g) : 0 ≤ g.fr ∧ g.fr < g.to := by
  have keep : ∀ {fr to cl}, keepF fr to cl = some g → g.fr = fr ∧ g.to = to ∧ fr < to := fun h => by
    unfold keepF at h
    split at h
    · cases h; exact ⟨rfl, rfl, by assumption⟩
    · cases h
  unfold adjF at h
  repeat' split at h
  all_goals first
    | (cases h; done)
    | (obtain ⟨h1, h2, h3⟩ := keep h; omega)
theorem adj_order {c o n : Int} (hc : 0 ≤ c) (ho : 0 ≤ o) (hn : 0 ≤ n) {f f' g g' : F} (hf : 0 ≤ f.fr ∧ f.fr < f.to) (hg : 0 ≤ g.fr ∧ g.fr < g.to) (hfg : f.to < g.fr) (h : adjF c o n f = some f') (k : adjF c o n g = some g') : f'.to < g'.fr := by
  have keep : ∀ {fr to cl x}, keepF fr to cl = some x → x.fr = fr ∧ x.to = to ∧ fr < to := fun h => by
    unfold keepF at h
    split at h
    · cases h; exact ⟨rfl, rfl, by assumption⟩
    · cases h
  unfold adjF at h k
  repeat' split at h
  all_goals first
    | (cases h; done)
    | (obtain ⟨h1, h2, h3⟩ := keep h
       repeat' split at k
       all_goals first
         | (cases k; done)
         | (obtain ⟨k1, k2, k3⟩ := keep k; omega))
theorem rightGo_of : ∀ {l : List F} {e : Int}, (∀ (j : Nat) g, l[j]? = some g → e < g.fr ∧ g.fr < g.to) → (∀ (i j : Nat) f g, i < j → l[i]? = some f → l[j]? = some g → f.to < g.fr) → rightGo e l = true
  | [], e, _, _ => rfl
  | x :: l, e, h1, h2 => by
    have h0 := h1 0 x rfl
    simp only [rightGo]
    rw [if_neg (by omega)]
    exact rightGo_of (fun j g hg => ⟨h2 0 (j + 1) x g (by omega) rfl (by simpa using hg), (h1 (j + 1) g (by simpa using hg)).2⟩) (fun i j f g hij hf hg => h2 (i + 1) (j + 1) f g (by omega) (by simpa using hf) (by simpa using hg))
theorem fm_get {c o n : Int} : ∀ {l : List F} {k : Nat} {g : F}, (l.filterMap (adjF c o n))[k]? = some g → ∃ (i : Nat) (f : F), k ≤ i ∧ l[i]? = some f ∧ adjF c o n f = some g
  | [], k, g, h => by simp at h
  | x :: l, k, g, h => by
    cases hx : adjF c o n x with
    | none =>
      rw [List.filterMap_cons_none hx] at h
      obtain ⟨i, f, h1, h2, h3⟩ := fm_get h
      exact ⟨i + 1, f, by omega, by simpa using h2, h3⟩
    | some y =>
      rw [List.filterMap_cons_some hx] at h
      cases k with
      | zero => simp at h; subst h; exact ⟨0, x, Nat.le_refl _, rfl, hx⟩
      | succ k =>
        simp at h
        obtain ⟨i, f, h1, h2, h3⟩ := fm_get h
        exact ⟨i + 1, f, by omega, by simpa using h2, h3⟩
theorem fm_order {c o n : Int} (hc : 0 ≤ c) (ho : 0 ≤ o) (hn : 0 ≤ n) : ∀ {l : List F}, (∀ (j : Nat) g, l[j]? = some g → 0 ≤ g.fr ∧ g.fr < g.to) → (∀ (i j : Nat) f g, i < j → l[i]? = some f → l[j]? = some g → f.to < g.fr) →
    ∀ (i j : Nat) f g, i < j → (l.filterMap (adjF c o n))[i]? = some f → (l.filterMap (adjF c o n))[j]? = some g → f.to < g.fr
  | [], _, _, i, j, f, g, _, h, _ => by simp at h
  | x :: l, h1, h2, i, j, f, g, hij, hf, hg => by
    have ih := fm_order hc ho hn (l := l) (fun j g hg => h1 (j + 1) g (by simpa using hg)) (fun i j f g hij hf hg => h2 (i + 1) (j + 1) f g (by omega) (by simpa using hf) (by simpa using hg))
    cases hx : adjF c o n x with
    | none =>
      rw [List.filterMap_cons_none hx] at hf hg
      exact ih i j f g hij hf hg
    | some y =>
      rw [List.filterMap_cons_some hx] at hf hg
      cases j with
      | zero => omega
      | succ j =>
        simp at hg
        cases i with
        | succ i => simp at hf; exact ih i j f g (by omega) hf hg
        | zero =>
          simp at hf; subst hf
          obtain ⟨m, u, _, hu, hug⟩ := fm_get hg
          exact adj_order hc ho hn (h1 0 x rfl) (h1 (m + 1) u (by simpa using hu)) (h2 0 (m + 1) x u (by omega) rfl (by simpa using hu)) hx hug
theorem adj_right {c o n : Int} (hc : 0 ≤ c) (ho : 0 ≤ o) (hn : 0 ≤ n) {l : List F} (hr : rightB l = true) : rightB (l.filterMap (adjF c o n)) = true := by
  obtain ⟨r1, r2, r3⟩ := rightB_at hr
  have hlen := List.length_filterMap_le (adjF c o n) l
  simp only [rightB, Bool.and_eq_true, decide_eq_true_eq]
  refine ⟨rightGo_of (fun j g hg => ?_) (fm_order hc ho hn r1 r2), by omega⟩
  obtain ⟨i, f, _, hf, hfg⟩ := fm_get hg
  have := adj_range hc ho hn (r1 i f hf) hfg
  omega
end Go.Proofs.Ytgfccaaalkkdlaa.Am
end
section
/- Folds, plain: what a fold made, dropped, closed or opened leaves, and that it is right. -/
set_option linter.unusedSimpArgs false
set_option linter.unusedVariables false
namespace Go.Proofs.Ytgfccaaalkkdlaa.Am
open Go Go.RowKit Go.Proofs.Try
/-- The first fold that ends at a line or behind it. -/
def firstF : List F → Int → Nat
  | [], _ => 0
  | f :: l, x => if x ≤ f.to then 0 else firstF l x + 1
theorem firstF_eq : ∀ {l : List F} {i : Nat} {x : Int}, i ≤ l.length → (∀ (j : Nat) f, j < i → l[j]? = some f → f.to < x) → (∀ f, l[i]? = some f → x ≤ f.to) → firstF l x = i
  | [], i, x, hi, _, _ => by simp only [List.length_nil] at hi; simp only [firstF]; omega
  | f :: l, 0, x, _, _, h2 => by simp only [firstF]; rw [if_pos (h2 f rfl)]
  | f :: l, i + 1, x, hi, h1, h2 => by
    simp only [firstF]
    have := h1 0 f (by omega) rfl
    rw [if_neg (by omega), firstF_eq (l := l) (i := i) (by simpa using hi) (fun j g hj hg => h1 (j + 1) g (by omega) (by simpa using hg)) (fun g hg => h2 g (by simpa using hg))]
theorem firstF_at : ∀ {l : List F} {x : Int}, firstF l x ≤ l.length ∧ (∀ (j : Nat) f, j < firstF l x → l[j]? = some f → f.to < x) ∧ ∀ f, l[firstF l x]? = some f → x ≤ f.to
  | [], x => ⟨by simp [firstF], fun j f hj _ => by simp [firstF] at hj, fun f hf => by simp at hf⟩
  | f :: l, x => by
    obtain ⟨h1, h2, h3⟩ := firstF_at (l := l) (x := x)
    simp only [firstF]
    by_cases h : x ≤ f.to
    · rw [if_pos h]
      exact ⟨by omega, fun j g hj _ => by omega, fun g hg => by simp at hg; subst hg; exact h⟩
    · rw [if_neg h]
      refine ⟨by simp only [List.length_cons]; omega, fun j g hj hg => ?_, fun g hg => h3 g (by simpa using hg)⟩
      cases j with
      | zero => simp at hg; subst hg; omega
      | succ j => exact h2 j g (by omega) (by simpa using hg)
def makeR (l : List F) (a b : Int) : List F × Int :=
  if rightB l = false ∨ a < 0 ∨ b ≤ a ∨ 1073741824 < b then ([], 1)
  else if (l[firstF l a]?.any fun f => decide (f.fr ≤ b)) = true then ([], 32)
  else if l.length = 64 then ([], 3)
  else (l.take (firstF l a) ++ ⟨a, b, true⟩ :: l.drop (firstF l a), 0)
def dropR (l : List F) (x : Int) : List F × Int :=
  if rightB l = false then ([], 1) else match inF l x with | none => ([], 32) | some k => (l.take k ++ l.drop (k + 1), 0)
def shutAt (l : List F) (k : Nat) (c : Bool) : List F := match l[k]? with | none => l | some f => l.set k ⟨f.fr, f.to, c⟩
def setR (l : List F) (x : Int) (c : Bool) : List F × Int :=
  if rightB l = false then ([], 1) else match inF l x with | none => ([], 32) | some k => (shutAt l k c, 0)
theorem ins_get {l : List F} {p : Nat} {f : F} (hp : p ≤ l.length) (j : Nat) : (l.take p ++ f :: l.drop p)[j]? = if j < p then l[j]? else if j = p then some f else l[j - 1]? := by
  have ht : (l.take p).length = p := by rw [List.length_take]; omega
  by_cases h1 : j < p
  · rw [if_pos h1, List.getElem?_append_left (by omega), List.getElem?_take, if_pos h1]
  · rw [if_neg h1, List.getElem?_append_right (by omega), ht]
    by_cases h2 : j = p
    · rw [if_pos h2, h2, Nat.sub_self]; rfl
    · rw [if_neg h2]
      obtain ⟨m, rfl⟩ : ∃ m, j = p + 1 + m := ⟨j - (p + 1), by omega⟩
      rw [show p + 1 + m - p = m + 1 from by omega, show p + 1 + m - 1 = p + m from by omega, List.getElem?_cons_succ, List.getElem?_drop]
theorem del_get {l : List F} {p : Nat} (hp : p < l.length) (j : Nat) : (l.take p ++ l.drop (p + 1))[j]? = if j < p then l[j]? else l[j + 1]? := by
  have ht : (l.take p).length = p := by rw [List.length_take]; omega
  by_cases h1 : j < p
  · rw [if_pos h1, List.getElem?_append_left (by omega), List.getElem?_take, if_pos h1]
  · rw [if_neg h1, List.getElem?_append_right (by omega), ht, List.getElem?_drop]
    congr 1; omega
theorem any_not {o : Option F} {b : Int} (h : ¬ (o.any fun f => decide (f.fr ≤ b)) = true) : ∀ f, o = some f → b < f.fr := fun f e => by
  subst e
  simp only [Option.any_some, decide_eq_true_eq] at h
  omega
theorem makeR_right {l : List F} {a b : Int} (h : (makeR l a b).2 = 0) : rightB (makeR l a b).1 = true ∧ (makeR l a b).1.length = l.length + 1 ∧ ∀ f, f ∈ (makeR l a b).1 → f ∈ l ∨ f.to ≤ 1073741824 := by
  unfold makeR at h ⊢
  split at h
  · simp at h
  rename_i h0
  split at h
  · simp at h
  rename_i h1
  split at h
  · simp at h
  rename_i h2
  rw [if_neg h0, if_neg h1, if_neg h2]
  have hr : rightB l = true := by
    cases e : rightB l with
    | true => rfl
    | false => exact absurd (.inl e) h0
  obtain ⟨p, q, s⟩ := firstF_at (l := l) (x := a)
  have hb := any_not h1
  obtain ⟨P, hP⟩ : ∃ P, P = firstF l a := ⟨_, rfl⟩
  rw [← hP] at p q s hb ⊢
  obtain ⟨r1, r2, r3⟩ := rightB_at hr
  have hlen : (l.take P ++ (⟨a, b, true⟩ : F) :: l.drop P).length = l.length + 1 := by rw [List.length_append, List.length_take, List.length_cons, List.length_drop]; omega
  have far : ∀ (j : Nat) f, P ≤ j → l[j]? = some f → b < f.fr := fun j f hj hf => by
    by_cases e : j = P
    · subst e; exact hb f hf
    · have hl : P < l.length := by have := (List.getElem?_eq_some_iff.1 hf).1; omega
      have g := hb _ (List.getElem?_eq_getElem hl)
      have := r2 P j _ f (by omega) (List.getElem?_eq_getElem hl) hf
      have := r1 P _ (List.getElem?_eq_getElem hl)
      omega
  refine ⟨?_, hlen, fun f hf => ?_⟩
  · simp only [rightB, Bool.and_eq_true, decide_eq_true_eq]
    refine ⟨rightGo_of (fun j g hg => ?_) (fun i j f g hij hf hg => ?_), by omega⟩
    · rw [ins_get p] at hg
      split at hg
      · have := r1 j g hg; omega
      · split at hg
        · cases hg; simp only; omega
        · have := r1 _ g hg; omega
    · rw [ins_get p] at hf hg
      by_cases i1 : i < P
      · rw [if_pos i1] at hf
        by_cases j1 : j < P
        · rw [if_pos j1] at hg; exact r2 i j f g hij hf hg
        · rw [if_neg j1] at hg
          by_cases j2 : j = P
          · rw [if_pos j2] at hg; cases hg; exact q i f i1 hf
          · rw [if_neg j2] at hg
            exact r2 i (j - 1) f g (by omega) hf hg
      · rw [if_neg i1] at hf
        rw [if_neg (by omega), if_neg (by omega)] at hg
        by_cases i2 : i = P
        · rw [if_pos i2] at hf; cases hf
          exact far (j - 1) g (by omega) hg
        · rw [if_neg i2] at hf
          exact r2 (i - 1) (j - 1) f g (by omega) hf hg
  · rw [List.mem_append, List.mem_cons] at hf
    rcases hf with hf | rfl | hf
    · exact .inl (List.mem_of_mem_take hf)
    · right; simp only; omega
    · exact .inl (List.mem_of_mem_drop hf)
theorem dropR_right {l : List F} {x : Int} (h : (dropR l x).2 = 0) : rightB (dropR l x).1 = true ∧ (dropR l x).1.length + 1 = l.length ∧ ∀ f, f ∈ (dropR l x).1 → f ∈ l := by
  unfold dropR at h ⊢
  split at h
  · simp at h
  rename_i h0
  rw [if_neg h0]
  have hr : rightB l = true := by simpa using h0
  cases e : inF l x with
  | none => rw [e] at h; simp at h
  | some k =>
    obtain ⟨f0, hf0, _⟩ := inF_some e
    have hk := (List.getElem?_eq_some_iff.1 hf0).1
    obtain ⟨r1, r2, r3⟩ := rightB_at hr
    have hlen : (l.take k ++ l.drop (k + 1)).length + 1 = l.length := by rw [List.length_append, List.length_take, List.length_drop]; omega
    refine ⟨?_, hlen, fun f hf => ?_⟩
    · simp only [rightB, Bool.and_eq_true, decide_eq_true_eq]
      refine ⟨rightGo_of (fun j g hg => ?_) (fun i j f g hij hf hg => ?_), by omega⟩
      · rw [del_get hk] at hg
        split at hg
        · have := r1 _ g hg; omega
        · have := r1 _ g hg; omega
      · rw [del_get hk] at hf hg
        split at hf
        · split at hg
          · exact r2 _ _ f g hij hf hg
          · exact r2 _ _ f g (by omega) hf hg
        · rw [if_neg (by omega)] at hg
          exact r2 _ _ f g (by omega) hf hg
    · rw [List.mem_append] at hf
      exact hf.elim List.mem_of_mem_take List.mem_of_mem_drop
theorem shut_get {l : List F} {k : Nat} {c : Bool} (j : Nat) : (∀ g, (shutAt l k c)[j]? = some g → ∃ f, l[j]? = some f ∧ g.fr = f.fr ∧ g.to = f.to) := fun g hg => by
  unfold shutAt at hg
  cases e : l[k]? with
  | none => rw [e] at hg; exact ⟨g, hg, rfl, rfl⟩
  | some f =>
    rw [e] at hg
    simp only [List.getElem?_set] at hg
    split at hg
    · rename_i hk
      subst hk
      split at hg
      · cases hg; exact ⟨f, e, rfl, rfl⟩
      · cases hg
    · exact ⟨g, hg, rfl, rfl⟩
theorem shut_len {l : List F} {k : Nat} {c : Bool} : (shutAt l k c).length = l.length := by
  unfold shutAt; split <;> simp
theorem setR_right {l : List F} {x : Int} {c : Bool} (h : (setR l x c).2 = 0) : rightB (setR l x c).1 = true ∧ (setR l x c).1.length = l.length ∧ ∀ g, g ∈ (setR l x c).1 → ∃ f, f ∈ l ∧ g.to = f.to := by
  unfold setR at h ⊢
  split at h
  · simp at h
  rename_i h0
  rw [if_neg h0]
  have hr : rightB l = true := by simpa using h0
  cases e : inF l x with
  | none => rw [e] at h; simp at h
  | some k =>
    obtain ⟨r1, r2, r3⟩ := rightB_at hr
    have hlen := shut_len (l := l) (k := k) (c := c)
    refine ⟨?_, hlen, fun g hg => ?_⟩
    · simp only [rightB, Bool.and_eq_true, decide_eq_true_eq]
      refine ⟨rightGo_of (fun j g hg => ?_) (fun i j f g hij hf hg => ?_), by omega⟩
      · obtain ⟨f, hf, e1, e2⟩ := shut_get j g hg
        have := r1 j f hf; omega
      · obtain ⟨f', hf', e1, e2⟩ := shut_get i f hf
        obtain ⟨g', hg', e3, e4⟩ := shut_get j g hg
        have := r2 i j f' g' hij hf' hg'; omega
    · obtain ⟨j, hj⟩ := List.mem_iff_getElem?.1 hg
      obtain ⟨f, hf, e1, e2⟩ := shut_get j g hj
      exact ⟨f, List.mem_of_getElem? hf, e2⟩
end Go.Proofs.Ytgfccaaalkkdlaa.Am
end
