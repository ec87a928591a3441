/- Patterns, the program: contracts of peek, ended, digits, by walks. -/
import Derived.Test.YtnnkcbkenofhmaaKc
set_option linter.unusedSimpArgs false
set_option linter.unusedVariables false
set_option maxHeartbeats 4000000
set_option maxRecDepth 20000
namespace Go.Proofs.Ytnnkcbkenofhmaa.Am
open Go Go.RowKit Go.Proofs.Try
theorem RdI.ix {h : Heap} {v : Value} {l : List Int} (S : RdI prog h .i32 v l) {i : Nat} {x : Int} (hx : l[i]? = some x) :
    aindexAddr prog 22 v (.int .i64 (i : Int)) = some (.pointer (some (eltA v 1 i))) ∧ aload prog h 21 (eltA v 1 i) = some (.int .i32 x) := by
  obtain ⟨hi, e⟩ := List.getElem?_eq_some_iff.1 hx
  have h1 := S.index underlying22 asz21 (q := .i64) (i := (i : Int)) (by omega) (by omega)
  have h2 := S.at (i := i) (t := 21) underlying21 rfl hi
  rw [Int.toNat_natCast] at h1
  rw [List.getD_eq_getElem?_getD, hx, Option.getD_some] at h2
  exact ⟨h1, h2⟩
theorem RdI.ln {h : Heap} {v : Value} {l : List Int} (S : RdI prog h .i32 v l) {n : Int} (hn : (l.length : Int) = n) : abuiltin prog .len #[22] #[v] = some (.int .i64 n) := by
  rw [← hn]; exact S.len underlying22
/-- What is left behind the first k runes. -/
theorem RdI.lo {h : Heap} {v : Value} {l : List Int} (S : RdI prog h .i32 v l) {k : Nat} (hk : k ≤ l.length) :
    aslice prog h 22 v (some (.int .i64 (k : Int))) none none = some (sliceV v 1 k l.length) ∧ RdI prog h .i32 (sliceV v 1 k l.length) (l.drop k) ∧ blkOf (sliceV v 1 k l.length) = blkOf v := by
  have h1 := Rd.sliceLo S underlying22 asz21 (q := .i64) (i := (k : Int)) (by omega) (by omega)
  rw [Int.toNat_natCast] at h1
  exact ⟨h1, S.partLo hk, sliceV_blk⟩
def peekV (l : List Int) : Value := .tuple #[.int .i32 (peekM l).1, .int .i32 (peekM l).2.1, .int .i64 (peekM l).2.2]
theorem Var.ld {h : Heap} {rb : Nat} {a b c : Value} (V : Var h rb [a, b, c]) : aload prog h 22 ⟨rb, 0, none⟩ = some a ∧ aload prog h 3 ⟨rb, 1, none⟩ = some b ∧ aload prog h 3 ⟨rb, 2, none⟩ = some c :=
  ⟨V.load1 (P := prog) (t := 22) underlying22 rfl (i := 0), V.load1 (P := prog) (t := 3) underlying3 rfl (i := 1), V.load1 (P := prog) (t := 3) underlying3 rfl (i := 2)⟩
theorem peek_ok {h : Heap} {rb pb : Nat} {l : List Int} {g o : Int} (R : RD h rb pb l g o) : ACalls prog 28 #[pt rb] h (fun y h' => y = peekV l ∧ h' = h) := by
  refine acalls_of_W func28 rfl (by kernel_rfl) (by kernel_rfl) (by simp [ntmps28]) ?_
  obtain ⟨rv, V, S, hb⟩ := R
  obtain ⟨L0, _, _⟩ := V.ld
  rcases l with _ | ⟨x, _ | ⟨y, t⟩⟩
  · have LN := S.ln (n := 0) rfl
    have d0 : decide ((0 : Int) = 0) = true := rfl
    simp only [wk, wt, wl, ↓reduceIte, Nat.reduceEqDiff, Nat.reduceAdd, Nat.zero_add, not_false_eq_true, not_true_eq_false, pt, L0, LN, d0]
    exact ⟨rfl, trivial⟩
  · have LN := S.ln (n := 1) rfl
    have d0 : decide ((1 : Int) = 0) = false := rfl
    have d1 : decide ((1 : Int) = 1) = true := rfl
    have IX : aindexAddr prog 22 rv (.int .i64 0) = _ := (S.ix (i := 0) rfl).1
    have LX := (S.ix (i := 0) rfl).2
    by_cases c : x = 92
    · have d2 := decide_eq_true c
      have d2' : decide (¬ x = 92) = false := by simp [c]
      simp only [wk, wt, wl, ↓reduceIte, Nat.reduceEqDiff, Nat.reduceAdd, Nat.zero_add, not_false_eq_true, not_true_eq_false, pt, L0, LN, d0, IX, LX, d2, d2', d1]
      subst c; exact ⟨rfl, trivial⟩
    · have d2 := decide_eq_false c
      have d2' : decide (¬ x = 92) = true := by simp [c]
      simp only [wk, wt, wl, ↓reduceIte, Nat.reduceEqDiff, Nat.reduceAdd, Nat.zero_add, not_false_eq_true, not_true_eq_false, pt, L0, LN, d0, IX, LX, d2, d2', d1]
      exact ⟨rfl, trivial⟩
  · have LN := S.ln (n := (t.length : Int) + 2) (by simp; omega)
    have d0 : decide ((t.length : Int) + 2 = 0) = false := decide_eq_false (by omega)
    have d1 : decide ((t.length : Int) + 2 = 1) = false := decide_eq_false (by omega)
    have IX : aindexAddr prog 22 rv (.int .i64 0) = _ := (S.ix (i := 0) rfl).1
    have LX := (S.ix (i := 0) rfl).2
    have IY : aindexAddr prog 22 rv (.int .i64 1) = _ := (S.ix (i := 1) rfl).1
    have LY := (S.ix (i := 1) rfl).2
    by_cases c : x = 92
    · have d2' : decide (¬ x = 92) = false := by simp [c]
      simp only [wk, wt, wl, ↓reduceIte, Nat.reduceEqDiff, Nat.reduceAdd, Nat.zero_add, not_false_eq_true, not_true_eq_false, pt, L0, LN, d0, IX, LX, d2', d1]
      refine adraw_order [(0, false), (1, false), (2, false), (3, false), (4, false), (5, false), (6, false), (7, false), (8, false)] mixed (by kernel_rfl) (by kernel_rfl) (by kernel_rfl) (by with_reducible repeat (first | exact PF_retK | refine PF_thenK ?_ | refine PF_blockK ?_)) ?_
      simp only [wk, wt, wl, ↓reduceIte, Nat.reduceEqDiff, Nat.reduceAdd, Nat.zero_add, not_false_eq_true, not_true_eq_false, pt, L0, IY, LY]
      subst c; exact ⟨rfl, trivial⟩
    · have d2' : decide (¬ x = 92) = true := by simp [c]
      simp only [wk, wt, wl, ↓reduceIte, Nat.reduceEqDiff, Nat.reduceAdd, Nat.zero_add, not_false_eq_true, not_true_eq_false, pt, L0, LN, d0, IX, LX, d2', d1]
      refine ⟨?_, trivial⟩
      simp only [peekV, peekM]
      rw [if_neg c]
theorem ended_ok {h : Heap} {v : Value} {l : List Int} (S : RdI prog h .i32 v l) : ACalls prog 32 #[v] h (fun y h' => y = .bool (endedM l) ∧ h' = h) := by
  refine acalls_of_W func32 rfl (by kernel_rfl) (by kernel_rfl) (by simp [ntmps32]) ?_
  rcases l with _ | ⟨x, _ | ⟨y, t⟩⟩
  · have LN := S.ln (n := 0) rfl
    have d0 : decide ((0 : Int) = 0) = true := rfl
    simp only [wk, wt, wl, ↓reduceIte, Nat.reduceEqDiff, Nat.reduceAdd, Nat.zero_add, not_false_eq_true, not_true_eq_false, LN, d0]
    exact ⟨rfl, trivial⟩
  · have LN := S.ln (n := 1) rfl
    have d0 : decide ((1 : Int) = 0) = false := rfl
    have d1 : decide ((1 : Int) < 1) = false := rfl
    simp only [wk, wt, wl, ↓reduceIte, Nat.reduceEqDiff, Nat.reduceAdd, Nat.zero_add, not_false_eq_true, not_true_eq_false, LN, d0, d1]
    exact ⟨rfl, trivial⟩
  · have LN := S.ln (n := (t.length : Int) + 2) (by simp; omega)
    have d0 : decide ((t.length : Int) + 2 = 0) = false := decide_eq_false (by omega)
    have d1 : decide (1 < (t.length : Int) + 2) = true := decide_eq_true (by omega)
    have IX : aindexAddr prog 22 v (.int .i64 0) = _ := (S.ix (i := 0) rfl).1
    have LX := (S.ix (i := 0) rfl).2
    have IY : aindexAddr prog 22 v (.int .i64 1) = _ := (S.ix (i := 1) rfl).1
    have LY := (S.ix (i := 1) rfl).2
    by_cases c : x = 92
    · have d2 := decide_eq_true c
      by_cases c1 : y = 124
      · have d3 := decide_eq_true c1
        simp only [wk, wt, wl, ↓reduceIte, Nat.reduceEqDiff, Nat.reduceAdd, Nat.zero_add, not_false_eq_true, not_true_eq_false, LN, d0, d1, IX, LX, d2, IY, LY, d3]
        exact ⟨by simp [endedM, c, c1], trivial⟩
      · have d3 := decide_eq_false c1
        by_cases c2 : y = 41
        · have d4 := decide_eq_true c2
          simp only [wk, wt, wl, ↓reduceIte, Nat.reduceEqDiff, Nat.reduceAdd, Nat.zero_add, not_false_eq_true, not_true_eq_false, LN, d0, d1, IX, LX, d2, IY, LY, d3, d4]
          exact ⟨by simp [endedM, c, c2], trivial⟩
        · have d4 := decide_eq_false c2
          simp only [wk, wt, wl, ↓reduceIte, Nat.reduceEqDiff, Nat.reduceAdd, Nat.zero_add, not_false_eq_true, not_true_eq_false, LN, d0, d1, IX, LX, d2, IY, LY, d3, d4]
          exact ⟨by simp [endedM, c, c1, c2], trivial⟩
    · have d2 := decide_eq_false c
      simp only [wk, wt, wl, ↓reduceIte, Nat.reduceEqDiff, Nat.reduceAdd, Nat.zero_add, not_false_eq_true, not_true_eq_false, LN, d0, d1, IX, LX, d2]
      exact ⟨by simp [endedM, c], trivial⟩
/-- Digits: what they come to; where they end. -/
theorem digits_ok {h : Heap} {v : Value} {l : List Int} (S : RdI prog h .i32 v l) : ACalls prog 41 #[v] h (fun y h' => ∃ w, y = .tuple #[.int .i64 (digM 0 false l).1, w, .bool (digM 0 false l).2.2] ∧ RdI prog h .i32 w (digM 0 false l).2.1 ∧ blkOf w = blkOf v ∧ h' = h) := by
  refine acalls_of_W func41 rfl (by kernel_rfl) (by kernel_rfl) (by simp [ntmps41]) ?_
  simp only [wk, wt, wl, ↓reduceIte, Nat.reduceEqDiff, Nat.reduceAdd, Nat.zero_add, not_false_eq_true, not_true_eq_false]
  refine W_loop (fun tm h' => h' = h ∧ ∃ (w : Value) (r : List Int) (n : Int) (b : Bool), tm 0 = w ∧ tm 2 = .int .i64 n ∧ tm 4 = .bool b ∧ RdI prog h .i32 w r ∧ blkOf w = blkOf v ∧ 0 ≤ n ∧ n ≤ 101 ∧ digM 0 false l = digM n b r)
    (fun tm _ => match tm 0 with | .slice _ n _ => n | _ => 0) ⟨rfl, v, l, 0, false, (by first | rfl | (simp only [wk, wt, wl, ↓reduceIte, Nat.reduceEqDiff, Nat.reduceAdd, Nat.zero_add, not_false_eq_true, not_true_eq_false]; done) | (simp only [wk, wt, wl, ↓reduceIte, Nat.reduceEqDiff, Nat.reduceAdd, Nat.zero_add, not_false_eq_true, not_true_eq_false]; rfl)), (by first | rfl | (simp only [wk, wt, wl, ↓reduceIte, Nat.reduceEqDiff, Nat.reduceAdd, Nat.zero_add, not_false_eq_true, not_true_eq_false]; done) | (simp only [wk, wt, wl, ↓reduceIte, Nat.reduceEqDiff, Nat.reduceAdd, Nat.zero_add, not_false_eq_true, not_true_eq_false]; rfl)), (by first | rfl | (simp only [wk, wt, wl, ↓reduceIte, Nat.reduceEqDiff, Nat.reduceAdd, Nat.zero_add, not_false_eq_true, not_true_eq_false]; done) | (simp only [wk, wt, wl, ↓reduceIte, Nat.reduceEqDiff, Nat.reduceAdd, Nat.zero_add, not_false_eq_true, not_true_eq_false]; rfl)), S, rfl, by omega, by omega, rfl⟩ ?_
  rintro tm tm_h ⟨rfl, w, r, n, b, t0, t2, t4, S, hw, hn0, hn1, hg⟩
  rcases r with _ | ⟨x, r⟩
  · have LN := S.ln (n := 0) rfl
    have d0 : decide ((0 : Int) < 0) = false := rfl
    simp only [wk, wt, wl, ↓reduceIte, Nat.reduceEqDiff, Nat.reduceAdd, Nat.zero_add, not_false_eq_true, not_true_eq_false, t0, t2, t4, LN, d0]
    rw [hg]
    exact ⟨w, rfl, S, hw, trivial⟩
  · have LN := S.ln (n := (r.length : Int) + 1) (by simp)
    have d0 : decide (0 < (r.length : Int) + 1) = true := decide_eq_true (by omega)
    have IX : aindexAddr prog 22 w (.int .i64 0) = _ := (S.ix (i := 0) rfl).1
    have LX := (S.ix (i := 0) rfl).2
    have hlo : ∃ w', aslice prog tm_h 22 w (some (.int .i64 1)) none none = some w' ∧ RdI prog tm_h .i32 w' r ∧ blkOf w' = blkOf w ∧ w' = sliceV w 1 1 (x :: r).length := ⟨_, (S.lo (k := 1) (by simp)).1, (S.lo (k := 1) (by simp)).2.1, (S.lo (k := 1) (by simp)).2.2, rfl⟩
    obtain ⟨w', SL, S', hw', hwe⟩ := hlo
    by_cases c1 : 48 ≤ x
    · have d1 := decide_eq_true c1
      by_cases c2 : x ≤ 57
      · have d2 := decide_eq_true c2
        have hg1 : digM n b (x :: r) = digM (kmin (n * 10 + (x - 48)) 101) true r := by simp only [digM]; rw [if_pos ⟨c1, c2⟩]
        have M1 := kmin_spec (n * 10 + (x - 48)) 101
        have w1 : IntKind.i64.wrap (n * 10) = n * 10 := IntWalk.i64_in _ (by omega)
        have w2 : IntKind.i32.wrap (x - 48) = x - 48 := IntWalk.i32_in _ (by omega)
        have w3 : IntKind.i64.wrap (x - 48) = x - 48 := IntWalk.i64_in _ (by omega)
        have w4 : IntKind.i64.wrap (n * 10 + (x - 48)) = n * 10 + (x - 48) := IntWalk.i64_in _ (by omega)
        have cv : ∀ h, aconv prog h 21 3 (.int .i32 (x - 48)) = some (.int .i64 (x - 48)) := fun h => by simp [aconv, underlying21, underlying3, w3]
        simp only [wk, wt, wl, ↓reduceIte, Nat.reduceEqDiff, Nat.reduceAdd, Nat.zero_add, not_false_eq_true, not_true_eq_false, t0, t2, t4, LN, d0, IX, LX, d1, d2, w1, w2, cv, w4, mnV, SL]
        refine ⟨⟨w', r, _, true, rfl, rfl, rfl, S', hw'.trans hw, by omega, by omega, hg.trans hg1⟩, ?_⟩
        obtain ⟨a, c, e1⟩ := Rd.num S
        obtain ⟨a', c', e2⟩ := Rd.num S'
        rw [e1, e2]
        simp
      · have d2 := decide_eq_false c2
        have hg1 : digM n b (x :: r) = (n, x :: r, b) := by simp only [digM]; rw [if_neg (fun e => c2 e.2)]
        simp only [wk, wt, wl, ↓reduceIte, Nat.reduceEqDiff, Nat.reduceAdd, Nat.zero_add, not_false_eq_true, not_true_eq_false, t0, t2, t4, LN, d0, IX, LX, d1, d2]
        rw [hg, hg1]
        exact ⟨w, rfl, S, hw, trivial⟩
    · have d1 := decide_eq_false c1
      have hg1 : digM n b (x :: r) = (n, x :: r, b) := by simp only [digM]; rw [if_neg (fun e => c1 e.1)]
      simp only [wk, wt, wl, ↓reduceIte, Nat.reduceEqDiff, Nat.reduceAdd, Nat.zero_add, not_false_eq_true, not_true_eq_false, t0, t2, t4, LN, d0, IX, LX, d1]
      rw [hg, hg1]
      exact ⟨w, rfl, S, hw, trivial⟩
end Go.Proofs.Ytnnkcbkenofhmaa.Am
