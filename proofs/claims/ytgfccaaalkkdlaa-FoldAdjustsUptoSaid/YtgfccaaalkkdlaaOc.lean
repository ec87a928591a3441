/- Folds: what is shown with a line: contracts of fold.find, at, shown, Head, Next, Prev, of the document's Prev and Same, by walks. -/
import Derived.Test.YtgfccaaalkkdlaaOb
set_option linter.unusedSimpArgs false
set_option linter.unusedVariables false
set_option maxHeartbeats 2000000
namespace Go.Proofs.Ytgfccaaalkkdlaa.Am
open Go Go.RowKit Go.Proofs.Try
theorem stood_fold : prog.stoodInHeld 36 = false := by kernel_rfl
theorem guard_fold : prog.eqGuardType prog.depth 36 = false := by kernel_rfl
theorem neq_fold {x y : Int} {c : Bool} : abin prog .neq 36 (.agg #[.int .i64 x, .int .i64 y, .bool c]) (.agg #[.int .i64 x, .int .i64 y, .bool c]) = some (.bool false) := by
  simp [abin, aeq, underlying36, stood_fold, guard_fold, aeqF, apart, aeq1, wt, isAggD]
theorem sameF_ok {a b : Value} {l : List F} {h : Heap} (ha : FR h a l) (hb : FR h b l) (hl : l.length ≤ 9223372036854775807) : ACalls prog 15 #[a, b] h (fun v h' => v = .bool true ∧ h' = h) := by
  refine acalls_of_W func15 rfl (by kernel_rfl) (by kernel_rfl) (by simp [ntmps15]) ?_
  have d0 : decide (¬ ((l.length : Nat) : Int) = l.length) = false := decide_eq_false (by simp)
  simp only [wk, wt, wl, ↓reduceIte, Nat.reduceEqDiff, Nat.reduceAdd, Nat.zero_add, not_false_eq_true, not_true_eq_false, ha.len underlying22, hb.len underlying22, d0]
  refine W_loop (fun tm h' => h' = h ∧ tm 0 = a ∧ tm 1 = b ∧ ∃ i : Nat, tm 5 = .int .i64 i ∧ i ≤ l.length) (fun tm _ => (l.length - intOf (tm 5)).toNat) ⟨rfl, (by first | rfl | (simp only [wk, wt, wl, ↓reduceIte, Nat.reduceEqDiff, Nat.reduceAdd, Nat.zero_add, not_false_eq_true, not_true_eq_false]; done) | (simp only [wk, wt, wl, ↓reduceIte, Nat.reduceEqDiff, Nat.reduceAdd, Nat.zero_add, not_false_eq_true, not_true_eq_false]; rfl)), (by first | rfl | (simp only [wk, wt, wl, ↓reduceIte, Nat.reduceEqDiff, Nat.reduceAdd, Nat.zero_add, not_false_eq_true, not_true_eq_false]; done) | (simp only [wk, wt, wl, ↓reduceIte, Nat.reduceEqDiff, Nat.reduceAdd, Nat.zero_add, not_false_eq_true, not_true_eq_false]; rfl)), 0, (by first | rfl | (simp only [wk, wt, wl, ↓reduceIte, Nat.reduceEqDiff, Nat.reduceAdd, Nat.zero_add, not_false_eq_true, not_true_eq_false]; done) | (simp only [wk, wt, wl, ↓reduceIte, Nat.reduceEqDiff, Nat.reduceAdd, Nat.zero_add, not_false_eq_true, not_true_eq_false]; rfl)), by omega⟩ ?_
  rintro tm h' ⟨rfl, t0, t1, i, t5, hi⟩
  simp only [wk, wt, wl, ↓reduceIte, Nat.reduceEqDiff, Nat.reduceAdd, Nat.zero_add, not_false_eq_true, not_true_eq_false, t0, t1, t5, ha.len underlying22]
  refine condK_dec (fun hd => ?_) (fun hd => ?_)
  · have hi1 : i < l.length := by omega
    obtain ⟨f, hx⟩ : ∃ f, l[i]? = some f := ⟨l[i], by simp [hi1]⟩
    obtain ⟨A0, A1, A2, A3⟩ := FR.flds ha hx
    obtain ⟨B0, B1, B2, B3⟩ := FR.flds hb hx
    have IA := Rd.index ha underlying22 asz36 (q := .i64) (i := (i : Int)) (by omega) (by omega)
    have IB := Rd.index hb underlying22 asz36 (q := .i64) (i := (i : Int)) (by omega) (by omega)
    simp only [Int.toNat_natCast] at IA IB
    simp only [wk, wt, wl, ↓reduceIte, Nat.reduceEqDiff, Nat.reduceAdd, Nat.zero_add, not_false_eq_true, not_true_eq_false]
    refine adraw_order [(0, false), (1, false), (2, false), (3, false), (4, false), (5, false), (6, false), (7, false), (8, false)] mixed (by kernel_rfl) (by kernel_rfl) (by kernel_rfl) (by repeat (first | exact PF_retK | refine PF_thenK ?_ | refine PF_blockK ?_)) ?_
    simp (disch := omega) only [wk, wt, wl, ↓reduceIte, Nat.reduceEqDiff, Nat.reduceAdd, Nat.zero_add, not_false_eq_true, not_true_eq_false, t0, t1, t5, IA, IB, A3, B3, neq_fold, IntWalk.i64_in, intOf_int]
    exact ⟨⟨i + 1, by simp, by omega⟩, by omega⟩
  · simp only [wk, wt, wl, ↓reduceIte, Nat.reduceEqDiff, Nat.reduceAdd, Nat.zero_add, not_false_eq_true, not_true_eq_false]
theorem find_ok {v : Value} {l : List F} {x : Int} {h : Heap} (R : FR h v l) (hr : rightB l = true) :
    ACalls prog 32 #[v, .int .i64 x] h (fun y h' => ∃ i : Nat, y = .tuple #[.int .i64 i, .bool (l[i]?.any fun f => decide (f.fr ≤ x))] ∧ i ≤ l.length ∧ (∀ (j : Nat) f, j < i → l[j]? = some f → f.to < x) ∧ (∀ f, l[i]? = some f → x ≤ f.to) ∧ Keeps h h') := by
  refine acalls_of_W' func32 rfl (by kernel_rfl) (by kernel_rfl) (by simp [ntmps32]) ?_
  intro H
  simp only [wk, wt, wl, ↓reduceIte, Nat.reduceEqDiff, Nat.reduceAdd, Nat.zero_add, not_false_eq_true, not_true_eq_false]
  refine (search_ok R hr).use ?_
  rintro _ h2 ⟨i, rfl, hi, hA, hB, K⟩
  have R2 : FR h2 v l := R.keeps K
  simp only [wk, wt, wl, ↓reduceIte, Nat.reduceEqDiff, Nat.reduceAdd, Nat.zero_add, not_false_eq_true, not_true_eq_false]
  refine adraw_order [(0, false), (1, false), (2, false), (3, false), (4, false), (5, false), (6, false), (7, false), (8, false), (9, false), (10, false), (11, false), (12, false), (13, false), (14, false), (15, false)] mixed (by kernel_rfl) (by kernel_rfl) (by kernel_rfl) (by repeat (first | exact PF_retK | refine PF_thenK ?_ | refine PF_blockK ?_)) ?_
  by_cases hil : i < l.length
  · have d1 : decide ((i : Int) < l.length) = true := decide_eq_true (by omega)
    obtain ⟨f, hx⟩ : ∃ f, l[i]? = some f := ⟨l[i], by simp [hil]⟩
    obtain ⟨F0, F1, F2, F3⟩ := R2.flds hx
    have IX := Rd.index R2 underlying22 asz36 (q := .i64) (i := (i : Int)) (by omega) (by omega)
    simp only [Int.toNat_natCast] at IX
    simp (disch := omega) only [wk, wt, wl, ↓reduceIte, Nat.reduceEqDiff, Nat.reduceAdd, Nat.zero_add, not_false_eq_true, not_true_eq_false, R2.len underlying22, d1, IX, F0]
    exact ⟨i, by simp [hx], hi, hA, hB, K⟩
  · have d1 : decide ((i : Int) < l.length) = false := decide_eq_false (by omega)
    simp (disch := omega) only [wk, wt, wl, ↓reduceIte, Nat.reduceEqDiff, Nat.reduceAdd, Nat.zero_add, not_false_eq_true, not_true_eq_false, R2.len underlying22, d1]
    have hx : l[i]? = none := List.getElem?_eq_none (by omega)
    exact ⟨i, by simp [hx], hi, hA, hB, K⟩
def atV (l : List F) (x : Int) : Value :=
  if rightB l = true then (match inF l x with | some k => .tuple #[.int .i64 k, .int .i64 0] | none => .tuple #[.int .i64 0, .int .i64 32]) else .tuple #[.int .i64 0, .int .i64 1]
theorem at_ok {v : Value} {l : List F} {x : Int} {h : Heap} (R : FR h v l) (hl : l.length ≤ 9223372036854775807) : ACalls prog 35 #[v, .int .i64 x] h (fun y h' => y = atV l x ∧ Keeps h h') := by
  refine acalls_of_W' func35 rfl (by kernel_rfl) (by kernel_rfl) (by simp [ntmps35]) ?_
  intro H
  simp only [wk, wt, wl, ↓reduceIte, Nat.reduceEqDiff, Nat.reduceAdd, Nat.zero_add, not_false_eq_true, not_true_eq_false]
  refine (right_ok R hl).use ?_
  rintro _ h2 ⟨rfl, K2⟩
  cases hr : rightB l with
  | false =>
    simp only [wk, wt, wl, ↓reduceIte, Nat.reduceEqDiff, Nat.reduceAdd, Nat.zero_add, not_false_eq_true, not_true_eq_false, Bool.not_false]
    simp only [atV, hr]
    exact ⟨rfl, K2⟩
  | true =>
    simp only [wk, wt, wl, ↓reduceIte, Nat.reduceEqDiff, Nat.reduceAdd, Nat.zero_add, not_false_eq_true, not_true_eq_false, Bool.not_true]
    refine (find_ok (RS.keeps R K2) hr).use ?_
    rintro _ h3 ⟨i, rfl, hi, hA, hB, K3⟩
    have hin := inF_find hr hA hB
    cases hx : l[i]? with
    | none =>
      rw [hx] at hin
      simp only at hin
      simp only [wk, wt, wl, ↓reduceIte, Nat.reduceEqDiff, Nat.reduceAdd, Nat.zero_add, not_false_eq_true, not_true_eq_false, hx, Option.any_none, Bool.not_false]
      simp [atV, hr, hin, K2.trans K3]
    | some f =>
      rw [hx] at hin
      simp only at hin
      by_cases hc : f.fr ≤ x
      · rw [if_pos hc] at hin
        have d1 : decide (f.fr ≤ x) = true := decide_eq_true hc
        simp only [wk, wt, wl, ↓reduceIte, Nat.reduceEqDiff, Nat.reduceAdd, Nat.zero_add, not_false_eq_true, not_true_eq_false, hx, Option.any_some, d1, Bool.not_true]
        simp [atV, hr, hin, K2.trans K3]
      · rw [if_neg hc] at hin
        have d1 : decide (f.fr ≤ x) = false := decide_eq_false hc
        simp only [wk, wt, wl, ↓reduceIte, Nat.reduceEqDiff, Nat.reduceAdd, Nat.zero_add, not_false_eq_true, not_true_eq_false, hx, Option.any_some, d1, Bool.not_false]
        simp [atV, hr, hin, K2.trans K3]
theorem shown_ok {v : Value} {l : List F} {x : Int} {h : Heap} (R : FR h v l) (hl : l.length ≤ 9223372036854775807) : ACalls prog 29 #[v, .int .i64 x] h (fun y h' => y = .tuple #[.int .i64 (shownZ l x).1, .int .i64 (shownZ l x).2] ∧ Keeps h h') := by
  refine acalls_of_W' func29 rfl (by kernel_rfl) (by kernel_rfl) (by simp [ntmps29]) ?_
  intro H
  simp only [wk, wt, wl, ↓reduceIte, Nat.reduceEqDiff, Nat.reduceAdd, Nat.zero_add, not_false_eq_true, not_true_eq_false]
  refine (at_ok R hl).use ?_
  rintro _ h2 ⟨rfl, K2⟩
  have R2 : FR h2 v l := R.keeps K2
  have d0 : decide ((0 : Int) = 0) = true := by decide
  have d1 : decide ((1 : Int) = 0) = false := by decide
  have d32 : decide ((32 : Int) = 0) = false := by decide
  cases hr : rightB l with
  | false =>
    simp only [atV, hr, Bool.false_eq_true, if_false]
    simp only [wk, wt, wl, ↓reduceIte, Nat.reduceEqDiff, Nat.reduceAdd, Nat.zero_add, not_false_eq_true, not_true_eq_false, d1]
    simp [shownZ, hr, K2]
  | true =>
    cases hin : inF l x with
    | none =>
      simp only [atV, hr, hin, if_true]
      simp only [wk, wt, wl, ↓reduceIte, Nat.reduceEqDiff, Nat.reduceAdd, Nat.zero_add, not_false_eq_true, not_true_eq_false, d32]
      simp [shownZ, hr, shutF, hin, K2]
    | some k =>
      obtain ⟨f, hx, _⟩ := inF_some hin
      have hk := (List.getElem?_eq_some_iff.1 hx).1
      obtain ⟨F0, F1, F2, F3⟩ := R2.flds hx
      have IX := Rd.index R2 underlying22 asz36 (q := .i64) (i := (k : Int)) (by omega) (by omega)
      simp only [Int.toNat_natCast] at IX
      simp only [atV, hr, hin, if_true]
      cases hcl : f.cl with
      | false =>
        rw [hcl] at F2
        simp only [wk, wt, wl, ↓reduceIte, Nat.reduceEqDiff, Nat.reduceAdd, Nat.zero_add, not_false_eq_true, not_true_eq_false, d0, IX, F2]
        simp [shownZ, hr, shutF, hin, hx, hcl, K2]
      | true =>
        rw [hcl] at F2
        simp only [wk, wt, wl, ↓reduceIte, Nat.reduceEqDiff, Nat.reduceAdd, Nat.zero_add, not_false_eq_true, not_true_eq_false, d0, IX, F2]
        refine adraw_order [(0, false), (1, false), (2, false), (3, false), (4, false), (5, false), (6, false), (7, false), (8, false), (9, false), (10, false), (11, false)] mixed (by kernel_rfl) (by kernel_rfl) (by kernel_rfl) (by repeat (first | exact PF_retK | refine PF_thenK ?_ | refine PF_blockK ?_)) ?_
        simp (disch := omega) only [wk, wt, wl, ↓reduceIte, Nat.reduceEqDiff, Nat.reduceAdd, Nat.zero_add, not_false_eq_true, not_true_eq_false, IX, F0, F1]
        simp [shownZ, hr, shutF, hin, hx, hcl, K2]
theorem head_ok {v : Value} {l : List F} {x : Int} {h : Heap} (R : FR h v l) (hl : l.length ≤ 9223372036854775807) : ACalls prog 9 #[v, .int .i64 x] h (fun y h' => y = .int .i64 (shownZ l x).1 ∧ Keeps h h') := by
  refine acalls_of_W func9 rfl (by kernel_rfl) (by kernel_rfl) (by simp [ntmps9]) ?_
  simp only [wk, wt, wl, ↓reduceIte, Nat.reduceEqDiff, Nat.reduceAdd, Nat.zero_add, not_false_eq_true, not_true_eq_false]
  refine (shown_ok R hl).use ?_
  rintro _ h2 ⟨rfl, K2⟩
  simp only [wk, wt, wl, ↓reduceIte, Nat.reduceEqDiff, Nat.reduceAdd, Nat.zero_add, not_false_eq_true, not_true_eq_false]
  exact K2
theorem shownZ_in {l : List F} {x : Int} (hn : nearF l = true) (hx : -2199023255552 ≤ x ∧ x ≤ 2199023255552) : -2199023255552 ≤ (shownZ l x).1 ∧ (shownZ l x).1 ≤ x ∧ x ≤ (shownZ l x).2 ∧ (shownZ l x).2 ≤ 2199023255552 := by
  rcases shownZ_range (l := l) (x := x) with e | ⟨k, f, _, _, hf, _, h1, h2, e⟩
  · rw [e]; omega
  · rw [e]; have := nearF_at hn hf; simp only; omega
theorem next_ok {v : Value} {l : List F} {x : Int} {h : Heap} (R : FR h v l) (hl : l.length ≤ 9223372036854775807) (hn : nearF l = true) (hx : -2199023255552 ≤ x ∧ x ≤ 2199023255552) : ACalls prog 11 #[v, .int .i64 x] h (fun y h' => y = .int .i64 ((shownZ l x).2 + 1) ∧ Keeps h h') := by
  have := shownZ_in hn hx
  refine acalls_of_W func11 rfl (by kernel_rfl) (by kernel_rfl) (by simp [ntmps11]) ?_
  simp only [wk, wt, wl, ↓reduceIte, Nat.reduceEqDiff, Nat.reduceAdd, Nat.zero_add, not_false_eq_true, not_true_eq_false]
  refine (shown_ok R hl).use ?_
  rintro _ h2 ⟨rfl, K2⟩
  simp (disch := omega) only [wk, wt, wl, ↓reduceIte, Nat.reduceEqDiff, Nat.reduceAdd, Nat.zero_add, not_false_eq_true, not_true_eq_false, IntWalk.i64_in]
  exact K2
def prevZ (l : List F) (x : Int) : Int := if 0 < (shownZ l x).1 then (shownZ l ((shownZ l x).1 - 1)).1 else -1
theorem prev_ok {v : Value} {l : List F} {x : Int} {h : Heap} (R : FR h v l) (hl : l.length ≤ 9223372036854775807) (hn : nearF l = true) (hx : -2199023255552 ≤ x ∧ x ≤ 2199023255552) : ACalls prog 13 #[v, .int .i64 x] h (fun y h' => y = .int .i64 (prevZ l x) ∧ Keeps h h') := by
  have := shownZ_in hn hx
  refine acalls_of_W func13 rfl (by kernel_rfl) (by kernel_rfl) (by simp [ntmps13]) ?_
  simp only [wk, wt, wl, ↓reduceIte, Nat.reduceEqDiff, Nat.reduceAdd, Nat.zero_add, not_false_eq_true, not_true_eq_false]
  refine (shown_ok R hl).use ?_
  rintro _ h2 ⟨rfl, K2⟩
  simp only [wk, wt, wl, ↓reduceIte, Nat.reduceEqDiff, Nat.reduceAdd, Nat.zero_add, not_false_eq_true, not_true_eq_false]
  refine condK_dec (fun hc => ?_) (fun hc => ?_)
  · simp (disch := omega) only [wk, wt, wl, ↓reduceIte, Nat.reduceEqDiff, Nat.reduceAdd, Nat.zero_add, not_false_eq_true, not_true_eq_false, IntWalk.i64_in]
    refine (head_ok (RS.keeps R K2) hl).use ?_
    rintro _ h3 ⟨rfl, K3⟩
    simp only [wk, wt, wl, ↓reduceIte, Nat.reduceEqDiff, Nat.reduceAdd, Nat.zero_add, not_false_eq_true, not_true_eq_false]
    rw [prevZ, if_pos hc]; exact ⟨rfl, K2.trans K3⟩
  · simp only [wk, wt, wl, ↓reduceIte, Nat.reduceEqDiff, Nat.reduceAdd, Nat.zero_add, not_false_eq_true, not_true_eq_false]
    rw [prevZ, if_neg hc]; exact ⟨rfl, K2⟩
theorem refPrev_ok {v : Value} {l : List F} {x : Int} {h : Heap} (R : FR h v l) (hl : l.length ≤ 9223372036854775807) (hn : nearF l = true) (hx : -2199023255552 ≤ x ∧ x ≤ 2199023255552) : ACalls prog 14 #[v, .int .i64 x] h (fun y h' => y = .int .i64 (prevZ l x) ∧ h' = h) := by
  have := shownZ_in hn hx
  refine acalls_of_W func14 rfl (by kernel_rfl) (by kernel_rfl) (by simp [ntmps14]) ?_
  simp only [wk, wt, wl, ↓reduceIte, Nat.reduceEqDiff, Nat.reduceAdd, Nat.zero_add, not_false_eq_true, not_true_eq_false]
  refine (refHead_ok R hl).use_pure ?_
  simp only [wk, wt, wl, ↓reduceIte, Nat.reduceEqDiff, Nat.reduceAdd, Nat.zero_add, not_false_eq_true, not_true_eq_false]
  refine condK_dec (fun hc => ?_) (fun hc => ?_)
  · simp only [wk, wt, wl, ↓reduceIte, Nat.reduceEqDiff, Nat.reduceAdd, Nat.zero_add, not_false_eq_true, not_true_eq_false]
    rw [prevZ, if_neg (by omega)]; exact ⟨rfl, trivial⟩
  · simp (disch := omega) only [wk, wt, wl, ↓reduceIte, Nat.reduceEqDiff, Nat.reduceAdd, Nat.zero_add, not_false_eq_true, not_true_eq_false, IntWalk.i64_in]
    refine (refHead_ok R hl).use_pure ?_
    simp only [wk, wt, wl, ↓reduceIte, Nat.reduceEqDiff, Nat.reduceAdd, Nat.zero_add, not_false_eq_true, not_true_eq_false]
    rw [prevZ, if_pos (by omega)]; exact ⟨rfl, trivial⟩
end Go.Proofs.Ytgfccaaalkkdlaa.Am
