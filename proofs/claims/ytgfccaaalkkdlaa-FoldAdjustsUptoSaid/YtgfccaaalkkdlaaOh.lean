/- The first statements of the seventeenth chapter, told of abstract memory: FoldShows and FoldRows answer true. -/
import Derived.Test.YtgfccaaalkkdlaaOg
set_option linter.unusedSimpArgs false
set_option linter.unusedVariables false
set_option maxHeartbeats 4000000
set_option maxRecDepth 20000
namespace Go.Proofs.Ytgfccaaalkkdlaa.Am
open Go Go.RowKit Go.Proofs.Try
theorem rowsN_ok {v : Value} {l : List F} {n : Int} {h : Heap} (R : FR h v l) (hl : l.length ≤ 9223372036854775807) (hr : rightB l = false) : ACalls prog 16 #[v, .int .i64 n] h (fun y h' => y = .slice none 0 0 ∧ Keeps h h') := by
  refine acalls_of_W' func16 rfl (by kernel_rfl) (by kernel_rfl) (by simp [ntmps16]) ?_
  intro H
  simp only [wk, wt, wl, ↓reduceIte, Nat.reduceEqDiff, Nat.reduceAdd, Nat.zero_add, not_false_eq_true, not_true_eq_false]
  refine (right_ok R hl).use ?_
  rintro _ h2 ⟨rfl, K2⟩
  simp only [wk, wt, wl, ↓reduceIte, Nat.reduceEqDiff, Nat.reduceAdd, Nat.zero_add, not_false_eq_true, not_true_eq_false, hr, Bool.not_false]
  exact K2
theorem refRowsN_ok {v : Value} {l : List F} {n : Int} {h : Heap} (R : FR h v l) (hl : l.length ≤ 9223372036854775807) (hr : rightB l = false) : ACalls prog 17 #[v, .int .i64 n] h (fun y h' => y = .slice none 0 0 ∧ h' = h) := by
  refine acalls_of_W func17 rfl (by kernel_rfl) (by kernel_rfl) (by simp [ntmps17]) ?_
  simp only [wk, wt, wl, ↓reduceIte, Nat.reduceEqDiff, Nat.reduceAdd, Nat.zero_add, not_false_eq_true, not_true_eq_false]
  refine (refRight_ok R hl).use_pure ?_
  simp only [wk, wt, wl, ↓reduceIte, Nat.reduceEqDiff, Nat.reduceAdd, Nat.zero_add, not_false_eq_true, not_true_eq_false, hr, Bool.not_false]
theorem foldShows_law {v : Value} {l : List F} {x n : Int} {h : Heap} (R : FR h v l) (hl : l.length ≤ 9223372036854775807) (hn0 : -9223372036854775808 ≤ n) : ACalls prog 3 #[v, .int .i64 x, .int .i64 n] h (fun y h' => y = .bool true ∧ Keeps h h') := by
  refine acalls_of_W' func3 rfl (by kernel_rfl) (by kernel_rfl) (by simp [ntmps3]) ?_
  intro H
  simp only [wk, wt, wl, ↓reduceIte, Nat.reduceEqDiff, Nat.reduceAdd, Nat.zero_add, not_false_eq_true, not_true_eq_false]
  refine (near_ok R hl).use_pure ?_
  cases hnb : nearB l x with
  | false =>
    simp only [wk, wt, wl, ↓reduceIte, Nat.reduceEqDiff, Nat.reduceAdd, Nat.zero_add, not_false_eq_true, not_true_eq_false, Bool.not_false]
    exact Keeps.refl H
  | true =>
    have hn : nearF l = true ∧ x ≤ 1099511627776 ∧ -1099511627776 ≤ x := by simpa [nearB] using hnb
    obtain ⟨hn, hx1, hx2⟩ := hn
    by_cases h3 : 3000 < n
    · have d1 : decide (3000 < n) = true := decide_eq_true h3
      simp only [wk, wt, wl, ↓reduceIte, Nat.reduceEqDiff, Nat.reduceAdd, Nat.zero_add, not_false_eq_true, not_true_eq_false, Bool.not_true, d1]
      exact Keeps.refl H
    · have d1 : decide (3000 < n) = false := decide_eq_false h3
      simp only [wk, wt, wl, ↓reduceIte, Nat.reduceEqDiff, Nat.reduceAdd, Nat.zero_add, not_false_eq_true, not_true_eq_false, Bool.not_true, d1]
      refine (head_ok R hl).use ?_
      rintro _ h2 ⟨rfl, K2⟩
      simp only [wk, wt, wl, ↓reduceIte, Nat.reduceEqDiff, Nat.reduceAdd, Nat.zero_add, not_false_eq_true, not_true_eq_false]
      refine (refHead_ok (RS.keeps R K2) hl).use_pure ?_
      simp only [wk, wt, wl, ↓reduceIte, Nat.reduceEqDiff, Nat.reduceAdd, Nat.zero_add, not_false_eq_true, not_true_eq_false, decide_true]
      refine (next_ok (RS.keeps R K2) hl hn (by omega)).use ?_
      rintro _ h3 ⟨rfl, K3⟩
      have K03 := K2.trans K3
      simp only [wk, wt, wl, ↓reduceIte, Nat.reduceEqDiff, Nat.reduceAdd, Nat.zero_add, not_false_eq_true, not_true_eq_false]
      refine (refNext_ok (RS.keeps R K03) hl hn (by omega)).use_pure ?_
      simp only [wk, wt, wl, ↓reduceIte, Nat.reduceEqDiff, Nat.reduceAdd, Nat.zero_add, not_false_eq_true, not_true_eq_false, decide_true]
      refine (prev_ok (RS.keeps R K03) hl hn (by omega)).use ?_
      rintro _ h4 ⟨rfl, K4⟩
      have K04 := K03.trans K4
      simp only [wk, wt, wl, ↓reduceIte, Nat.reduceEqDiff, Nat.reduceAdd, Nat.zero_add, not_false_eq_true, not_true_eq_false]
      refine (refPrev_ok (RS.keeps R K04) hl hn (by omega)).use_pure ?_
      simp only [wk, wt, wl, ↓reduceIte, Nat.reduceEqDiff, Nat.reduceAdd, Nat.zero_add, not_false_eq_true, not_true_eq_false, decide_true]
      cases hr : rightB l with
      | false =>
        refine (rowsN_ok (RS.keeps R K04) hl hr).use ?_
        rintro _ h5 ⟨rfl, K5⟩
        have K05 := K04.trans K5
        simp only [wk, wt, wl, ↓reduceIte, Nat.reduceEqDiff, Nat.reduceAdd, Nat.zero_add, not_false_eq_true, not_true_eq_false]
        refine (refRowsN_ok (RS.keeps R K05) hl hr).use_pure ?_
        simp only [wk, wt, wl, ↓reduceIte, Nat.reduceEqDiff, Nat.reduceAdd, Nat.zero_add, not_false_eq_true, not_true_eq_false]
        refine (sameF_ok (l := []) Rd.nil0 Rd.nil0 (by simp)).use_pure ?_
        simp only [wk, wt, wl, ↓reduceIte, Nat.reduceEqDiff, Nat.reduceAdd, Nat.zero_add, not_false_eq_true, not_true_eq_false]
        refine awake_ok.use ?_
        rintro _ h6 ⟨rfl, K6⟩
        simp only [wk, wt, wl, ↓reduceIte, Nat.reduceEqDiff, Nat.reduceAdd, Nat.zero_add, not_false_eq_true, not_true_eq_false]
        exact K05.trans K6
      | true =>
        refine (rows_ok (RS.keeps R K04) hl hn (by omega) hr).use ?_
        rintro y5 h5 ⟨r, hr5, R5, hl5, K5⟩
        have K05 := K04.trans K5
        simp only [wk, wt, wl, ↓reduceIte, Nat.reduceEqDiff, Nat.reduceAdd, Nat.zero_add, not_false_eq_true, not_true_eq_false]
        refine (refRows_ok (RS.keeps R K05) hl hn (by omega) hr).use ?_
        rintro y6 h6 ⟨r', hr6, R6, _, K6⟩
        obtain rfl := hr5.det hr6
        have K06 := K05.trans K6
        simp only [wk, wt, wl, ↓reduceIte, Nat.reduceEqDiff, Nat.reduceAdd, Nat.zero_add, not_false_eq_true, not_true_eq_false]
        refine (sameF_ok (RS.keeps R5 K6) R6 (by omega)).use_pure ?_
        simp only [wk, wt, wl, ↓reduceIte, Nat.reduceEqDiff, Nat.reduceAdd, Nat.zero_add, not_false_eq_true, not_true_eq_false]
        refine awake_ok.use ?_
        rintro _ h7 ⟨rfl, K7⟩
        simp only [wk, wt, wl, ↓reduceIte, Nat.reduceEqDiff, Nat.reduceAdd, Nat.zero_add, not_false_eq_true, not_true_eq_false]
        exact K06.trans K7
end Go.Proofs.Ytgfccaaalkkdlaa.Am
