/- The texts of this seat, one behind another (part 1 of 11): the frame (an abstract machine), the contracts of functions, the laws. -/
import Derived.Test.YtcgajolmjjeibaaDoorAmF
section
/- What the small functions over runes answer: contracts, by walks. -/
set_option linter.unusedSimpArgs false
set_option linter.unusedVariables false
set_option maxHeartbeats 1000000
namespace Go.Proofs.YtcgajolmjjeibaaDoor.Am
open Go Go.RowKit Go.Proofs.Tryd
def isR (r : Int) : Prop := -2147483648 ≤ r ∧ r ≤ 2147483647
def validB (r : Int) : Bool := decide ((0 ≤ r ∧ r < 55296) ∨ (57343 < r ∧ r ≤ 1114111))
def zeroB (r : Int) : Bool := decide ((768 ≤ r ∧ r ≤ 879) ∨ (8203 ≤ r ∧ r ≤ 8207) ∨ (8400 ≤ r ∧ r ≤ 8447) ∨ (65024 ≤ r ∧ r ≤ 65039))
def wideB (r : Int) : Bool := decide ((4352 ≤ r ∧ r ≤ 4447) ∨ (11904 ≤ r ∧ r ≤ 12350) ∨ (12353 ≤ r ∧ r ≤ 19903) ∨ (19968 ≤ r ∧ r ≤ 42191) ∨ (44032 ≤ r ∧ r ≤ 55203) ∨ (63744 ≤ r ∧ r ≤ 64255) ∨ (65072 ≤ r ∧ r ≤ 65135) ∨ (65280 ≤ r ∧ r ≤ 65376) ∨ (65504 ≤ r ∧ r ≤ 65510) ∨ (127744 ≤ r ∧ r ≤ 128591) ∨ (129280 ≤ r ∧ r ≤ 129535) ∨ (131072 ≤ r ∧ r ≤ 262141))
def ctlB (r : Int) : Bool := decide ((0 ≤ r ∧ r < 32) ∨ r = 127)
def widthZ (r : Int) : Int := if zeroB r = true then 0 else if wideB r = true ∨ ctlB r = true then 2 else 1
def tabZ (t : Int) : Int := if t < 1 ∨ 64 < t then 8 else t
theorem valid_ok {r : Int} {h : Heap} (h0 : isR r) : ACalls prog 90 #[.int .i32 r] h (fun v h' => v = .bool (validB r) ∧ h' = h) := by
  obtain ⟨h0, h1⟩ := h0
  refine acalls_of_W func90 rfl (by kernel_rfl) (by kernel_rfl) (by simp [ntmps90]) ?_
  simp only [wk, wt, wl, ↓reduceIte, Nat.reduceEqDiff, Nat.reduceAdd, Nat.zero_add, not_false_eq_true, not_true_eq_false, aconv, IntKind.wrap_u32]
  repeat' (first
      | (with_reducible refine condK_dec (fun hc => ?_) (fun hc => ?_) <;> simp only [wk, wt, wl, ↓reduceIte, Nat.reduceEqDiff, Nat.reduceAdd, Nat.zero_add, not_false_eq_true, not_true_eq_false, aconv, IntKind.wrap_u32, hc])
      | (with_reducible refine condK_split (fun hc => ?_) (fun hc => ?_) <;> simp only [wk, wt, wl, ↓reduceIte, Nat.reduceEqDiff, Nat.reduceAdd, Nat.zero_add, not_false_eq_true, not_true_eq_false, aconv, IntKind.wrap_u32, hc])
      | (with_reducible refine gateO_dec (fun hc => ?_) (fun hc => ?_) <;> simp only [wk, wt, wl, ↓reduceIte, Nat.reduceEqDiff, Nat.reduceAdd, Nat.zero_add, not_false_eq_true, not_true_eq_false, aconv, IntKind.wrap_u32, hc])
      | (with_reducible refine gateO_decF (fun hc => ?_) (fun hc => ?_) <;> simp only [wk, wt, wl, ↓reduceIte, Nat.reduceEqDiff, Nat.reduceAdd, Nat.zero_add, not_false_eq_true, not_true_eq_false, aconv, IntKind.wrap_u32, hc])
      | (with_reducible refine gateO_boolT (fun hc => ?_) (fun hc => ?_) <;> simp only [wk, wt, wl, ↓reduceIte, Nat.reduceEqDiff, Nat.reduceAdd, Nat.zero_add, not_false_eq_true, not_true_eq_false, aconv, IntKind.wrap_u32, hc])
      | (with_reducible refine gateO_boolF (fun hc => ?_) (fun hc => ?_) <;> simp only [wk, wt, wl, ↓reduceIte, Nat.reduceEqDiff, Nat.reduceAdd, Nat.zero_add, not_false_eq_true, not_true_eq_false, aconv, IntKind.wrap_u32, hc]))
  all_goals (simp only [validB, and_true, Value.bool.injEq, eqT, eqF, decide_eq_decide]; omega)
theorem refValid_ok {r : Int} {h : Heap} (h0 : isR r) : ACalls prog 65 #[.int .i32 r] h (fun v h' => v = .bool (validB r) ∧ h' = h) := by
  obtain ⟨h0, h1⟩ := h0
  refine acalls_of_W func65 rfl (by kernel_rfl) (by kernel_rfl) (by simp [ntmps65]) ?_
  simp only [wk, wt, wl, ↓reduceIte, Nat.reduceEqDiff, Nat.reduceAdd, Nat.zero_add, not_false_eq_true, not_true_eq_false]
  repeat' (first
      | (with_reducible refine condK_dec (fun hc => ?_) (fun hc => ?_) <;> simp only [wk, wt, wl, ↓reduceIte, Nat.reduceEqDiff, Nat.reduceAdd, Nat.zero_add, not_false_eq_true, not_true_eq_false, hc])
      | (with_reducible refine condK_split (fun hc => ?_) (fun hc => ?_) <;> simp only [wk, wt, wl, ↓reduceIte, Nat.reduceEqDiff, Nat.reduceAdd, Nat.zero_add, not_false_eq_true, not_true_eq_false, hc])
      | (with_reducible refine gateO_dec (fun hc => ?_) (fun hc => ?_) <;> simp only [wk, wt, wl, ↓reduceIte, Nat.reduceEqDiff, Nat.reduceAdd, Nat.zero_add, not_false_eq_true, not_true_eq_false, hc])
      | (with_reducible refine gateO_decF (fun hc => ?_) (fun hc => ?_) <;> simp only [wk, wt, wl, ↓reduceIte, Nat.reduceEqDiff, Nat.reduceAdd, Nat.zero_add, not_false_eq_true, not_true_eq_false, hc])
      | (with_reducible refine gateO_boolT (fun hc => ?_) (fun hc => ?_) <;> simp only [wk, wt, wl, ↓reduceIte, Nat.reduceEqDiff, Nat.reduceAdd, Nat.zero_add, not_false_eq_true, not_true_eq_false, hc])
      | (with_reducible refine gateO_boolF (fun hc => ?_) (fun hc => ?_) <;> simp only [wk, wt, wl, ↓reduceIte, Nat.reduceEqDiff, Nat.reduceAdd, Nat.zero_add, not_false_eq_true, not_true_eq_false, hc]))
  all_goals (simp only [validB, and_true, Value.bool.injEq, eqT, eqF, decide_eq_decide]; omega)
theorem zero_ok {r : Int} {h : Heap} : ACalls prog 41 #[.int .i32 r] h (fun v h' => v = .bool (zeroB r) ∧ h' = h) := by
  refine acalls_of_W func41 rfl (by kernel_rfl) (by kernel_rfl) (by simp [ntmps41]) ?_
  simp only [wk, wt, wl, ↓reduceIte, Nat.reduceEqDiff, Nat.reduceAdd, Nat.zero_add, not_false_eq_true, not_true_eq_false]
  repeat' (first
      | (with_reducible refine condK_dec (fun hc => ?_) (fun hc => ?_) <;> simp only [wk, wt, wl, ↓reduceIte, Nat.reduceEqDiff, Nat.reduceAdd, Nat.zero_add, not_false_eq_true, not_true_eq_false, hc])
      | (with_reducible refine condK_split (fun hc => ?_) (fun hc => ?_) <;> simp only [wk, wt, wl, ↓reduceIte, Nat.reduceEqDiff, Nat.reduceAdd, Nat.zero_add, not_false_eq_true, not_true_eq_false, hc])
      | (with_reducible refine gateO_dec (fun hc => ?_) (fun hc => ?_) <;> simp only [wk, wt, wl, ↓reduceIte, Nat.reduceEqDiff, Nat.reduceAdd, Nat.zero_add, not_false_eq_true, not_true_eq_false, hc])
      | (with_reducible refine gateO_decF (fun hc => ?_) (fun hc => ?_) <;> simp only [wk, wt, wl, ↓reduceIte, Nat.reduceEqDiff, Nat.reduceAdd, Nat.zero_add, not_false_eq_true, not_true_eq_false, hc])
      | (with_reducible refine gateO_boolT (fun hc => ?_) (fun hc => ?_) <;> simp only [wk, wt, wl, ↓reduceIte, Nat.reduceEqDiff, Nat.reduceAdd, Nat.zero_add, not_false_eq_true, not_true_eq_false, hc])
      | (with_reducible refine gateO_boolF (fun hc => ?_) (fun hc => ?_) <;> simp only [wk, wt, wl, ↓reduceIte, Nat.reduceEqDiff, Nat.reduceAdd, Nat.zero_add, not_false_eq_true, not_true_eq_false, hc]))
  all_goals (simp only [zeroB, and_true, Value.bool.injEq, eqT, eqF, decide_eq_decide]; omega)
theorem ctl_ok {r : Int} {h : Heap} : ACalls prog 64 #[.int .i32 r] h (fun v h' => v = .bool (ctlB r) ∧ h' = h) := by
  refine acalls_of_W func64 rfl (by kernel_rfl) (by kernel_rfl) (by simp [ntmps64]) ?_
  simp only [wk, wt, wl, ↓reduceIte, Nat.reduceEqDiff, Nat.reduceAdd, Nat.zero_add, not_false_eq_true, not_true_eq_false]
  repeat' (first
      | (with_reducible refine condK_dec (fun hc => ?_) (fun hc => ?_) <;> simp only [wk, wt, wl, ↓reduceIte, Nat.reduceEqDiff, Nat.reduceAdd, Nat.zero_add, not_false_eq_true, not_true_eq_false, hc])
      | (with_reducible refine condK_split (fun hc => ?_) (fun hc => ?_) <;> simp only [wk, wt, wl, ↓reduceIte, Nat.reduceEqDiff, Nat.reduceAdd, Nat.zero_add, not_false_eq_true, not_true_eq_false, hc])
      | (with_reducible refine gateO_dec (fun hc => ?_) (fun hc => ?_) <;> simp only [wk, wt, wl, ↓reduceIte, Nat.reduceEqDiff, Nat.reduceAdd, Nat.zero_add, not_false_eq_true, not_true_eq_false, hc])
      | (with_reducible refine gateO_decF (fun hc => ?_) (fun hc => ?_) <;> simp only [wk, wt, wl, ↓reduceIte, Nat.reduceEqDiff, Nat.reduceAdd, Nat.zero_add, not_false_eq_true, not_true_eq_false, hc])
      | (with_reducible refine gateO_boolT (fun hc => ?_) (fun hc => ?_) <;> simp only [wk, wt, wl, ↓reduceIte, Nat.reduceEqDiff, Nat.reduceAdd, Nat.zero_add, not_false_eq_true, not_true_eq_false, hc])
      | (with_reducible refine gateO_boolF (fun hc => ?_) (fun hc => ?_) <;> simp only [wk, wt, wl, ↓reduceIte, Nat.reduceEqDiff, Nat.reduceAdd, Nat.zero_add, not_false_eq_true, not_true_eq_false, hc]))
  all_goals (simp only [ctlB, and_true, Value.bool.injEq, eqT, eqF, decide_eq_decide]; omega)
theorem wide_ok {r : Int} {h : Heap} : ACalls prog 63 #[.int .i32 r] h (fun v h' => v = .bool (wideB r) ∧ h' = h) := by
  refine acalls_of_W func63 rfl (by kernel_rfl) (by kernel_rfl) (by simp [ntmps63]) ?_
  rcases (show r < 4352 ∨ (4352 ≤ r ∧ r ≤ 4447) ∨ (4448 ≤ r ∧ r < 11904) ∨ (11904 ≤ r ∧ r ≤ 12350) ∨ (12351 ≤ r ∧ r < 12353) ∨ (12353 ≤ r ∧ r ≤ 19903) ∨ (19904 ≤ r ∧ r < 19968) ∨ (19968 ≤ r ∧ r ≤ 42191) ∨ (42192 ≤ r ∧ r < 44032) ∨ (44032 ≤ r ∧ r ≤ 55203) ∨ (55204 ≤ r ∧ r < 63744) ∨ (63744 ≤ r ∧ r ≤ 64255) ∨ (64256 ≤ r ∧ r < 65072) ∨ (65072 ≤ r ∧ r ≤ 65135) ∨ (65136 ≤ r ∧ r < 65280) ∨ (65280 ≤ r ∧ r ≤ 65376) ∨ (65377 ≤ r ∧ r < 65504) ∨ (65504 ≤ r ∧ r ≤ 65510) ∨ (65511 ≤ r ∧ r < 127744) ∨ (127744 ≤ r ∧ r ≤ 128591) ∨ (128592 ≤ r ∧ r < 129280) ∨ (129280 ≤ r ∧ r ≤ 129535) ∨ (129536 ≤ r ∧ r < 131072) ∨ (131072 ≤ r ∧ r ≤ 262141) ∨ 262142 ≤ r from by omega) with hi | hi | hi | hi | hi | hi | hi | hi | hi | hi | hi | hi | hi | hi | hi | hi | hi | hi | hi | hi | hi | hi | hi | hi | hi
  all_goals simp (disch := omega) only [wk, wt, wl, ↓reduceIte, Nat.reduceEqDiff, Nat.reduceAdd, Nat.zero_add, not_false_eq_true, not_true_eq_false, decide_eq_true, decide_eq_false]
  all_goals (simp only [wideB, and_true, Value.bool.injEq, eqT, eqF]; omega)
theorem refWidth_ok {r : Int} {h : Heap} : ACalls prog 42 #[.int .i32 r] h (fun v h' => v = .int .i64 (widthZ r) ∧ h' = h) := by
  refine acalls_of_W func42 rfl (by kernel_rfl) (by kernel_rfl) (by simp [ntmps42]) ?_
  simp only [wk, wt, wl, ↓reduceIte, Nat.reduceEqDiff, Nat.reduceAdd, Nat.zero_add, not_false_eq_true, not_true_eq_false]
  repeat' (first
      | (with_reducible refine condK_dec (fun hc => ?_) (fun hc => ?_) <;> simp only [wk, wt, wl, ↓reduceIte, Nat.reduceEqDiff, Nat.reduceAdd, Nat.zero_add, not_false_eq_true, not_true_eq_false, hc])
      | (with_reducible refine condK_split (fun hc => ?_) (fun hc => ?_) <;> simp only [wk, wt, wl, ↓reduceIte, Nat.reduceEqDiff, Nat.reduceAdd, Nat.zero_add, not_false_eq_true, not_true_eq_false, hc])
      | (with_reducible refine gateO_dec (fun hc => ?_) (fun hc => ?_) <;> simp only [wk, wt, wl, ↓reduceIte, Nat.reduceEqDiff, Nat.reduceAdd, Nat.zero_add, not_false_eq_true, not_true_eq_false, hc])
      | (with_reducible refine gateO_decF (fun hc => ?_) (fun hc => ?_) <;> simp only [wk, wt, wl, ↓reduceIte, Nat.reduceEqDiff, Nat.reduceAdd, Nat.zero_add, not_false_eq_true, not_true_eq_false, hc])
      | (with_reducible refine gateO_boolT (fun hc => ?_) (fun hc => ?_) <;> simp only [wk, wt, wl, ↓reduceIte, Nat.reduceEqDiff, Nat.reduceAdd, Nat.zero_add, not_false_eq_true, not_true_eq_false, hc])
      | (with_reducible refine gateO_boolF (fun hc => ?_) (fun hc => ?_) <;> simp only [wk, wt, wl, ↓reduceIte, Nat.reduceEqDiff, Nat.reduceAdd, Nat.zero_add, not_false_eq_true, not_true_eq_false, hc])
      | (with_reducible refine (zero_ok).use_pure ?_; simp only [wk, wt, wl, ↓reduceIte, Nat.reduceEqDiff, Nat.reduceAdd, Nat.zero_add, not_false_eq_true, not_true_eq_false])
      | (with_reducible refine (wide_ok).use_pure ?_; simp only [wk, wt, wl, ↓reduceIte, Nat.reduceEqDiff, Nat.reduceAdd, Nat.zero_add, not_false_eq_true, not_true_eq_false])
      | (with_reducible refine (ctl_ok).use_pure ?_; simp only [wk, wt, wl, ↓reduceIte, Nat.reduceEqDiff, Nat.reduceAdd, Nat.zero_add, not_false_eq_true, not_true_eq_false]))
  all_goals simp [widthZ, *]
theorem tab_ok {t : Int} {h : Heap} : ACalls prog 40 #[.int .i64 t] h (fun v h' => v = .int .i64 (tabZ t) ∧ h' = h) := by
  refine acalls_of_W func40 rfl (by kernel_rfl) (by kernel_rfl) (by simp [ntmps40]) ?_
  simp only [wk, wt, wl, ↓reduceIte, Nat.reduceEqDiff, Nat.reduceAdd, Nat.zero_add, not_false_eq_true, not_true_eq_false]
  repeat' (first
      | (with_reducible refine condK_dec (fun hc => ?_) (fun hc => ?_) <;> simp only [wk, wt, wl, ↓reduceIte, Nat.reduceEqDiff, Nat.reduceAdd, Nat.zero_add, not_false_eq_true, not_true_eq_false, hc])
      | (with_reducible refine condK_split (fun hc => ?_) (fun hc => ?_) <;> simp only [wk, wt, wl, ↓reduceIte, Nat.reduceEqDiff, Nat.reduceAdd, Nat.zero_add, not_false_eq_true, not_true_eq_false, hc])
      | (with_reducible refine gateO_dec (fun hc => ?_) (fun hc => ?_) <;> simp only [wk, wt, wl, ↓reduceIte, Nat.reduceEqDiff, Nat.reduceAdd, Nat.zero_add, not_false_eq_true, not_true_eq_false, hc])
      | (with_reducible refine gateO_decF (fun hc => ?_) (fun hc => ?_) <;> simp only [wk, wt, wl, ↓reduceIte, Nat.reduceEqDiff, Nat.reduceAdd, Nat.zero_add, not_false_eq_true, not_true_eq_false, hc])
      | (with_reducible refine gateO_boolT (fun hc => ?_) (fun hc => ?_) <;> simp only [wk, wt, wl, ↓reduceIte, Nat.reduceEqDiff, Nat.reduceAdd, Nat.zero_add, not_false_eq_true, not_true_eq_false, hc])
      | (with_reducible refine gateO_boolF (fun hc => ?_) (fun hc => ?_) <;> simp only [wk, wt, wl, ↓reduceIte, Nat.reduceEqDiff, Nat.reduceAdd, Nat.zero_add, not_false_eq_true, not_true_eq_false, hc]))
  all_goals (simp only [and_true, Value.int.injEq, true_and, tabZ]; try (first | (rw [if_pos (by omega)]) | (rw [if_neg (by omega)])))
end Go.Proofs.YtcgajolmjjeibaaDoor.Am
end
section
/- What is shown of a rune: contracts of cell.Show and of the document's Show, by walks; two rows of runes compared. -/
set_option linter.unusedSimpArgs false
set_option linter.unusedVariables false
set_option maxHeartbeats 1000000
namespace Go.Proofs.YtcgajolmjjeibaaDoor.Am
open Go Go.RowKit Go.Proofs.Tryd
def showL (r : Int) : List Int := if ctlB r = true then (if 64 ≤ r then [94, r - 64] else [94, r + 64]) else if (128 ≤ r ∧ r < 160) ∨ validB r = false then [65533] else [r]
theorem xor64 {r : Int} (h0 : 0 ≤ r) (h1 : r < 32) : bits .xor .i32 r 64 = r + 64 := by
  have : ∀ n : Fin 32, bits .xor .i32 (n.val : Int) 64 = (n.val : Int) + 64 := by decide
  have := this ⟨r.toNat, by omega⟩
  simp only [Int.toNat_of_nonneg h0] at this
  exact this
theorem xor64b : bits .xor .i32 127 64 = 63 := by decide
theorem showL_ctl {r : Int} (h0 : 0 ≤ r) (h1 : r < 32) : showL r = [94, r + 64] := by
  have : ctlB r = true := by simp [ctlB]; omega
  simp only [showL, this, if_true]; rw [if_neg (by omega)]
theorem showL_del : showL 127 = [94, 63] := by decide
theorem not_ctl {r : Int} (h1 : ¬ (0 ≤ r ∧ r < 32)) (h2 : ¬ r = 127) : ctlB r = false := by simp [ctlB]; omega
theorem showL_c1 {r : Int} (h0 : 128 ≤ r) (h1 : r < 160) : showL r = [65533] := by
  simp only [showL, not_ctl (r := r) (by omega) (by omega), Bool.false_eq_true, if_false]; rw [if_pos (.inl ⟨h0, h1⟩)]
theorem showL_bad {r : Int} (h1 : ¬ (0 ≤ r ∧ r < 32)) (h2 : ¬ r = 127) (hv : (!validB r) = true) : showL r = [65533] := by
  simp only [showL, not_ctl h1 h2, Bool.false_eq_true, if_false]; rw [if_pos (.inr (by simpa using hv))]
theorem showL_self {r : Int} (h1 : ¬ (0 ≤ r ∧ r < 32)) (h2 : ¬ r = 127) (h3 : ¬ (128 ≤ r ∧ r < 160)) (hv : (!validB r) = false) : showL r = [r] := by
  simp only [showL, not_ctl h1 h2, Bool.false_eq_true, if_false]; rw [if_neg (fun e => e.elim h3 (fun e => by simp [e] at hv))]
theorem show_ok {r : Int} {h : Heap} (h0 : isR r) : ACalls prog 85 #[.int .i32 r] h (fun v h' => v = .slice (some ⟨h.size, 0, none⟩) (showL r).length ((showL r).length + 1) ∧ h' = h.new 21 ((showL r).map (Value.int .i32))) := by
  refine acalls_of_W func85 rfl (by kernel_rfl) (by kernel_rfl) (by simp [ntmps85]) ?_
  simp only [wk, wt, wl, ↓reduceIte, Nat.reduceEqDiff, Nat.reduceAdd, Nat.zero_add, not_false_eq_true, not_true_eq_false]
  repeat' (first
      | (with_reducible refine condK_dec (fun hc => ?_) (fun hc => ?_) <;> simp only [wk, wt, wl, ↓reduceIte, Nat.reduceEqDiff, Nat.reduceAdd, Nat.zero_add, not_false_eq_true, not_true_eq_false, hc])
      | (with_reducible refine condK_split (fun hc => ?_) (fun hc => ?_) <;> simp only [wk, wt, wl, ↓reduceIte, Nat.reduceEqDiff, Nat.reduceAdd, Nat.zero_add, not_false_eq_true, not_true_eq_false, hc])
      | (with_reducible refine gateO_dec (fun hc => ?_) (fun hc => ?_) <;> simp only [wk, wt, wl, ↓reduceIte, Nat.reduceEqDiff, Nat.reduceAdd, Nat.zero_add, not_false_eq_true, not_true_eq_false, hc])
      | (with_reducible refine gateO_decF (fun hc => ?_) (fun hc => ?_) <;> simp only [wk, wt, wl, ↓reduceIte, Nat.reduceEqDiff, Nat.reduceAdd, Nat.zero_add, not_false_eq_true, not_true_eq_false, hc])
      | (with_reducible refine gateO_boolT (fun hc => ?_) (fun hc => ?_) <;> simp only [wk, wt, wl, ↓reduceIte, Nat.reduceEqDiff, Nat.reduceAdd, Nat.zero_add, not_false_eq_true, not_true_eq_false, hc])
      | (with_reducible refine gateO_boolF (fun hc => ?_) (fun hc => ?_) <;> simp only [wk, wt, wl, ↓reduceIte, Nat.reduceEqDiff, Nat.reduceAdd, Nat.zero_add, not_false_eq_true, not_true_eq_false, hc])
      | (with_reducible refine (valid_ok h0).use_pure ?_; simp only [wk, wt, wl, ↓reduceIte, Nat.reduceEqDiff, Nat.reduceAdd, Nat.zero_add, not_false_eq_true, not_true_eq_false]))
  all_goals first
    | (rw [showL_del, xor64b]; exact ⟨rfl, rfl⟩)
    | (rw [showL_ctl (by omega) (by omega), xor64 (by omega) (by omega)]; exact ⟨rfl, rfl⟩)
    | (rw [showL_c1 (by omega) (by omega)]; exact ⟨rfl, rfl⟩)
    | (rw [showL_bad (by omega) (by omega) (by assumption)]; exact ⟨rfl, rfl⟩)
    | (rw [showL_self (by omega) (by omega) (by omega) (by assumption)]; exact ⟨rfl, rfl⟩)
theorem refShow_ok {r : Int} {h : Heap} (h0 : isR r) : ACalls prog 43 #[.int .i32 r] h (fun v h' => v = .slice (some ⟨h.size, 0, none⟩) (showL r).length ((showL r).length + 1) ∧ h' = h.new 21 ((showL r).map (Value.int .i32))) := by
  refine acalls_of_W func43 rfl (by kernel_rfl) (by kernel_rfl) (by simp [ntmps43]) ?_
  simp only [wk, wt, wl, ↓reduceIte, Nat.reduceEqDiff, Nat.reduceAdd, Nat.zero_add, not_false_eq_true, not_true_eq_false]
  repeat' (first
      | (with_reducible refine condK_dec (fun hc => ?_) (fun hc => ?_) <;> simp only [wk, wt, wl, ↓reduceIte, Nat.reduceEqDiff, Nat.reduceAdd, Nat.zero_add, not_false_eq_true, not_true_eq_false, hc])
      | (with_reducible refine condK_split (fun hc => ?_) (fun hc => ?_) <;> simp only [wk, wt, wl, ↓reduceIte, Nat.reduceEqDiff, Nat.reduceAdd, Nat.zero_add, not_false_eq_true, not_true_eq_false, hc])
      | (with_reducible refine gateO_dec (fun hc => ?_) (fun hc => ?_) <;> simp only [wk, wt, wl, ↓reduceIte, Nat.reduceEqDiff, Nat.reduceAdd, Nat.zero_add, not_false_eq_true, not_true_eq_false, hc])
      | (with_reducible refine gateO_decF (fun hc => ?_) (fun hc => ?_) <;> simp only [wk, wt, wl, ↓reduceIte, Nat.reduceEqDiff, Nat.reduceAdd, Nat.zero_add, not_false_eq_true, not_true_eq_false, hc])
      | (with_reducible refine gateO_boolT (fun hc => ?_) (fun hc => ?_) <;> simp only [wk, wt, wl, ↓reduceIte, Nat.reduceEqDiff, Nat.reduceAdd, Nat.zero_add, not_false_eq_true, not_true_eq_false, hc])
      | (with_reducible refine gateO_boolF (fun hc => ?_) (fun hc => ?_) <;> simp only [wk, wt, wl, ↓reduceIte, Nat.reduceEqDiff, Nat.reduceAdd, Nat.zero_add, not_false_eq_true, not_true_eq_false, hc])
      | (with_reducible refine (ctl_ok).use_pure ?_; simp only [wk, wt, wl, ↓reduceIte, Nat.reduceEqDiff, Nat.reduceAdd, Nat.zero_add, not_false_eq_true, not_true_eq_false])
      | (with_reducible refine (refValid_ok h0).use_pure ?_; simp only [wk, wt, wl, ↓reduceIte, Nat.reduceEqDiff, Nat.reduceAdd, Nat.zero_add, not_false_eq_true, not_true_eq_false]))
  all_goals first
    | (have hctl : (0 ≤ r ∧ r < 32) ∨ r = 127 := by
        have : ctlB r = true := by assumption
        simpa [ctlB] using this
       simp (disch := omega) only [IntWalk.i32_in]
       first
        | (obtain rfl : r = 127 := by omega
           rw [showL_del]; exact ⟨rfl, rfl⟩)
        | (rw [showL_ctl (by omega) (by omega)]; exact ⟨rfl, rfl⟩))
    | (have hctl : ¬ ((0 ≤ r ∧ r < 32) ∨ r = 127) := by
        have : ctlB r = false := by assumption
        simpa only [ctlB, decide_eq_false_iff_not] using this
       first
        | (rw [showL_c1 (by omega) (by omega)]; exact ⟨rfl, rfl⟩)
        | (rw [showL_bad (by omega) (by omega) (by assumption)]; exact ⟨rfl, rfl⟩)
        | (rw [showL_self (by omega) (by omega) (by omega) (by assumption)]; exact ⟨rfl, rfl⟩))
def intOf : Value → Int
  | .int _ x => x
  | _ => 0
theorem intOf_int {k : IntKind} {x : Int} : intOf (.int k x) = x := rfl
theorem getD_ext {xs ys : List Int} (hl : xs.length = ys.length) (h : ∀ i, i < xs.length → xs.getD i 0 = ys.getD i 0) : xs = ys := by
  refine List.ext_getElem hl fun i h1 h2 => ?_
  have := h i h1
  simpa [h1, h2] using this
theorem runes_ok {a b : Value} {xs ys : List Int} {h : Heap} (ha : RdI prog h .i32 a xs) (hb : RdI prog h .i32 b ys) (hlen : xs.length < 9223372036854775807) : ACalls prog 19 #[a, b] h (fun v h' => v = .bool (decide (xs = ys)) ∧ h' = h) := by
  refine acalls_of_W func19 rfl (by kernel_rfl) (by kernel_rfl) (by simp [ntmps19]) ?_
  simp only [wk, wt, wl, ↓reduceIte, Nat.reduceEqDiff, Nat.reduceAdd, Nat.zero_add, not_false_eq_true, not_true_eq_false, Rd.len ha underlying23, Rd.len hb underlying23]
  refine condK_dec (fun hc => ?_) (fun hc => ?_)
  · simp only [wk, wt, wl, ↓reduceIte, Nat.reduceEqDiff, Nat.reduceAdd, Nat.zero_add, not_false_eq_true, not_true_eq_false]
    refine ⟨?_, trivial⟩
    have : ¬ xs = ys := fun e => hc (by rw [e])
    simp [this]
  · have hl : xs.length = ys.length := by omega
    simp only [wk, wt, wl, ↓reduceIte, Nat.reduceEqDiff, Nat.reduceAdd, Nat.zero_add, not_false_eq_true, not_true_eq_false]
    refine W_loop (fun tm h' => h' = h ∧ tm 0 = a ∧ tm 1 = b ∧ ∃ i : Nat, tm 5 = .int .i64 i ∧ i ≤ xs.length ∧ ∀ j, j < i → xs.getD j 0 = ys.getD j 0) (fun tm _ => (xs.length - intOf (tm 5)).toNat) ⟨rfl, by simp only [wk, wt, wl, ↓reduceIte, Nat.reduceEqDiff, Nat.reduceAdd, Nat.zero_add, not_false_eq_true, not_true_eq_false], by simp only [wk, wt, wl, ↓reduceIte, Nat.reduceEqDiff, Nat.reduceAdd, Nat.zero_add, not_false_eq_true, not_true_eq_false], 0, by simp only [wk, wt, wl, ↓reduceIte, Nat.reduceEqDiff, Nat.reduceAdd, Nat.zero_add, not_false_eq_true, not_true_eq_false]; rfl, by omega, fun j hj => by omega⟩ ?_
    rintro tm h' ⟨rfl, h0, h1, i, h5, hi, hj⟩
    simp only [wk, wt, wl, ↓reduceIte, Nat.reduceEqDiff, Nat.reduceAdd, Nat.zero_add, not_false_eq_true, not_true_eq_false, h0, h1, h5, Rd.len ha underlying23]
    refine condK_dec (fun hc => ?_) (fun hc => ?_)
    · simp only [wk, wt, wl, ↓reduceIte, Nat.reduceEqDiff, Nat.reduceAdd, Nat.zero_add, not_false_eq_true, not_true_eq_false]
      refine adraw_order [(0, false), (1, false), (2, false), (3, false), (4, false), (5, false), (6, false), (7, false), (8, false)] mixed (by kernel_rfl) (by kernel_rfl) (by kernel_rfl) (by with_reducible repeat (first | exact PF_retK | refine PF_thenK ?_ | refine PF_blockK ?_)) ?_
      simp only [wk, wt, wl, ↓reduceIte, Nat.reduceEqDiff, Nat.reduceAdd, Nat.zero_add, not_false_eq_true, not_true_eq_false, h0, h1, h5, Rd.index ha underlying23 asz21 (q := .i64) (i := i) (by omega) (by omega), Rd.index hb underlying23 asz21 (q := .i64) (i := i) (by omega) (by omega), RdI.at ha underlying21 rfl (i := i) (by omega), RdI.at hb underlying21 rfl (i := i) (by omega)]
      refine condK_dec (fun hd => ?_) (fun hd => ?_)
      · simp only [wk, wt, wl, ↓reduceIte, Nat.reduceEqDiff, Nat.reduceAdd, Nat.zero_add, not_false_eq_true, not_true_eq_false]
        have : ¬ xs = ys := fun e => hd (by rw [e])
        simp [this]
      · simp (disch := omega) only [wk, wt, wl, ↓reduceIte, Nat.reduceEqDiff, Nat.reduceAdd, Nat.zero_add, not_false_eq_true, not_true_eq_false, h0, h1, h5, IntWalk.i64_in, intOf_int]
        refine ⟨⟨i + 1, by simp, by omega, fun j hj' => ?_⟩, by omega⟩
        by_cases e : j = i
        · subst e; exact Decidable.not_not.1 hd
        · exact hj j (by omega)
    · simp only [wk, wt, wl, ↓reduceIte, Nat.reduceEqDiff, Nat.reduceAdd, Nat.zero_add, not_false_eq_true, not_true_eq_false]
      have : xs = ys := getD_ext hl fun j hj' => hj j (by omega)
      simp [this]
end Go.Proofs.YtcgajolmjjeibaaDoor.Am
end
section
/- How wide a rune is: the contract of cell.Width, by a walk over its search in the table of ranges. -/
set_option linter.unusedSimpArgs false
set_option linter.unusedVariables false
set_option maxHeartbeats 1000000
namespace Go.Proofs.YtcgajolmjjeibaaDoor.Am
open Go Go.RowKit Go.Proofs.Tryd
def rgs : List (Int × Int × Int) := [(0, 31, 2), (127, 127, 2), (768, 879, 0), (4352, 4447, 2), (8203, 8207, 0), (8400, 8447, 0), (11904, 12350, 2), (12353, 19903, 2), (19968, 42191, 2), (44032, 55203, 2), (63744, 64255, 2), (65024, 65039, 0), (65072, 65135, 2), (65280, 65376, 2), (65504, 65510, 2), (127744, 128591, 2), (129280, 129535, 2), (131072, 262141, 2)]
def rgsV : List Value := rgs.flatMap fun x => [.int .i32 x.1, .int .i32 x.2.1, .int .i32 x.2.2]
def rlo (m : Nat) : Int := (rgs.getD m (0, 0, 0)).1
def rhi (m : Nat) : Int := (rgs.getD m (0, 0, 0)).2.1
def rwd (m : Nat) : Int := (rgs.getD m (0, 0, 0)).2.2
/-- The package's table stands in memory as the program's text lays it. -/
def Gl (h : Heap) : Prop := ∃ k v, h.get 0 = some k ∧ 0 < h.size ∧ k.live = true ∧ k.cells = [v] ∧ Rd prog h 3 v 18 rgsV
theorem Gl.keeps {h h' : Heap} (G : Gl h) (K : Keeps h h') : Gl h' := by
  obtain ⟨k, v, h1, h2, h3, h4, h5⟩ := G
  exact ⟨k, v, (K.at h2).trans h1, Nat.lt_of_lt_of_le h2 (Ch.le K), h3, h4, h5.keeps K⟩
theorem rgsV_at : ∀ m : Fin 18, rgsV[m.val * 3 + 0]? = some (.int .i32 (rlo m)) ∧ rgsV[m.val * 3 + 1]? = some (.int .i32 (rhi m)) ∧ rgsV[m.val * 3 + 2]? = some (.int .i32 (rwd m)) := by
  intro m
  have : ∀ n, n < 18 → rgsV[n * 3 + 0]? = some (.int .i32 (rlo n)) ∧ rgsV[n * 3 + 1]? = some (.int .i32 (rhi n)) ∧ rgsV[n * 3 + 2]? = some (.int .i32 (rwd n)) := by
    intro n hn
    iterate 18 (cases n with | zero => exact ⟨rfl, rfl, rfl⟩ | succ n => ?_)
    omega
  exact this m.val m.isLt
theorem rgs_sorted : ∀ i j : Fin 18, i.val < j.val → rhi i < rlo j ∧ rlo i ≤ rlo j ∧ rhi i ≤ rhi j := by decide
theorem rgs_range : ∀ i : Fin 18, rlo i ≤ rhi i ∧ 0 ≤ rwd i ∧ rwd i ≤ 2 := by decide
theorem width_in {r : Int} {m : Nat} (hm : m < 18) (h1 : rlo m ≤ r) (h2 : r ≤ rhi m) : widthZ r = rwd m := by
  have key : ∀ n, n < 18 → rlo n ≤ r → r ≤ rhi n → widthZ r = rwd n := by
    intro n hn g1 g2
    iterate 18 (cases n with | zero => (simp only [rlo, rhi, rwd, rgs, List.getD_cons_zero, List.getD_cons_succ] at g1 g2 ⊢; simp only [widthZ, zeroB, wideB, ctlB, decide_eq_true_eq]; first | (rw [if_pos (by omega)]; done) | (rw [if_neg (by omega), if_pos (by omega)]; done)) | succ n => ?_)
    omega
  exact key m hm h1 h2
theorem width_out {r : Int} (h : ∀ m, m < 18 → r < rlo m ∨ rhi m < r) : widthZ r = 1 := by
  have h0 := h 0 (by omega); have h1 := h 1 (by omega); have h2 := h 2 (by omega); have h3 := h 3 (by omega); have h4 := h 4 (by omega); have h5 := h 5 (by omega)
  have h6 := h 6 (by omega); have h7 := h 7 (by omega); have h8 := h 8 (by omega); have h9 := h 9 (by omega); have h10 := h 10 (by omega); have h11 := h 11 (by omega)
  have h12 := h 12 (by omega); have h13 := h 13 (by omega); have h14 := h 14 (by omega); have h15 := h 15 (by omega); have h16 := h 16 (by omega); have h17 := h 17 (by omega)
  clear h
  simp only [rlo, rhi, rgs, List.getD_cons_zero, List.getD_cons_succ] at *
  simp only [widthZ, zeroB, wideB, ctlB, decide_eq_true_eq]
  rw [if_neg (by omega), if_neg (by omega)]
theorem width_ok {r : Int} {h : Heap} (h0 : isR r) (G : Gl h) : ACalls prog 79 #[.int .i32 r] h (fun v h' => v = .int .i64 (widthZ r) ∧ h' = h) := by
  obtain ⟨k, g, g1, g2, g3, g4, g5⟩ := G
  have GL : aload prog h 139 ⟨0, 0, none⟩ = some g := by simp [aload, g1, g3, g4, underlying139, isAggD]
  have AT : ∀ m : Nat, m < 18 → aload prog h 21 ⟨(eltA g 3 m).block, (eltA g 3 m).off + 0, none⟩ = some (.int .i32 (rlo m)) ∧ aload prog h 21 ⟨(eltA g 3 m).block, (eltA g 3 m).off + 1, none⟩ = some (.int .i32 (rhi m)) ∧ aload prog h 21 ⟨(eltA g 3 m).block, (eltA g 3 m).off + 2, none⟩ = some (.int .i32 (rwd m)) := fun m hm => by
    have := rgsV_at ⟨m, hm⟩
    exact ⟨(g5.at underlying21 rfl hm (by omega)).trans this.1, (g5.at underlying21 rfl hm (by omega)).trans this.2.1, (g5.at underlying21 rfl hm (by omega)).trans this.2.2⟩
  refine acalls_of_W func79 rfl (by kernel_rfl) (by kernel_rfl) (by simp [ntmps79]) ?_
  simp only [wk, wt, wl, ↓reduceIte, Nat.reduceEqDiff, Nat.reduceAdd, Nat.zero_add, not_false_eq_true, not_true_eq_false]
  refine adraw_order [(0, false), (1, false), (2, false), (3, false)] mixed (by kernel_rfl) (by kernel_rfl) (by kernel_rfl) (by with_reducible repeat (first | exact PF_retK | refine PF_thenK ?_ | refine PF_blockK ?_)) ?_
  simp only [wk, wt, wl, ↓reduceIte, Nat.reduceEqDiff, Nat.reduceAdd, Nat.zero_add, not_false_eq_true, not_true_eq_false, GL, Rd.len g5 underlying139]
  refine W_loop (fun tm h' => h' = h ∧ tm 0 = .int .i32 r ∧ ∃ lo hi : Int, tm 3 = .int .i64 lo ∧ tm 4 = .int .i64 hi ∧ 0 ≤ lo ∧ lo ≤ hi ∧ hi ≤ 18 ∧ (∀ j : Nat, (j : Int) < lo → rhi j < r) ∧ (∀ j : Nat, hi ≤ j → j < 18 → r < rlo j)) (fun tm _ => (intOf (tm 4) - intOf (tm 3)).toNat) ⟨rfl, (by first | rfl | (simp only [wk, wt, wl, ↓reduceIte, Nat.reduceEqDiff, Nat.reduceAdd, Nat.zero_add, not_false_eq_true, not_true_eq_false]; done) | (simp only [wk, wt, wl, ↓reduceIte, Nat.reduceEqDiff, Nat.reduceAdd, Nat.zero_add, not_false_eq_true, not_true_eq_false]; rfl)), 0, 18, (by first | rfl | (simp only [wk, wt, wl, ↓reduceIte, Nat.reduceEqDiff, Nat.reduceAdd, Nat.zero_add, not_false_eq_true, not_true_eq_false]; done) | (simp only [wk, wt, wl, ↓reduceIte, Nat.reduceEqDiff, Nat.reduceAdd, Nat.zero_add, not_false_eq_true, not_true_eq_false]; rfl)), (by first | rfl | (simp only [wk, wt, wl, ↓reduceIte, Nat.reduceEqDiff, Nat.reduceAdd, Nat.zero_add, not_false_eq_true, not_true_eq_false]; done) | (simp only [wk, wt, wl, ↓reduceIte, Nat.reduceEqDiff, Nat.reduceAdd, Nat.zero_add, not_false_eq_true, not_true_eq_false]; rfl)), by omega, by omega, by omega, fun j hj => by omega, fun j hj hk => by omega⟩ ?_
  rintro tm h' ⟨rfl, t0, lo, hi, t3, t4, b0, b1, b2, i1, i2⟩
  simp only [wk, wt, wl, ↓reduceIte, Nat.reduceEqDiff, Nat.reduceAdd, Nat.zero_add, not_false_eq_true, not_true_eq_false, t0, t3, t4]
  refine condK_dec (fun hc => ?_) (fun hc => ?_)
  · obtain ⟨m, hm⟩ : ∃ m : Nat, (lo + hi) / 2 = m := ⟨((lo + hi) / 2).toNat, by omega⟩
    have hm18 : m < 18 := by omega
    obtain ⟨A0, A1, A2⟩ := AT m hm18
    simp (disch := omega) only [wk, wt, wl, ↓reduceIte, Nat.reduceEqDiff, Nat.reduceAdd, Nat.zero_add, not_false_eq_true, not_true_eq_false, t0, t3, t4, abin_quo (P := prog) (y := 2) (by decide), IntWalk.i64_in, Int.tdiv_eq_ediv_of_nonneg]
    simp only [hm]
    simp (disch := omega) only [wk, wt, wl, ↓reduceIte, Nat.reduceEqDiff, Nat.reduceAdd, Nat.zero_add, not_false_eq_true, not_true_eq_false, GL, A0, A1, A2, Rd.index g5 underlying139 asz140 (q := .i64) (i := (m : Int)) (by omega) (by omega), arr_index underlying140 asz21, Int.reduceToNat]
    have srt : ∀ i j : Nat, i < 18 → j < 18 → i < j → rhi i < rlo j ∧ rlo i ≤ rlo j ∧ rhi i ≤ rhi j := fun i j hi hj hij => rgs_sorted ⟨i, hi⟩ ⟨j, hj⟩ hij
    refine condK_dec (fun hd => ?_) (fun hd => ?_)
    · simp only [wk, wt, wl, ↓reduceIte, Nat.reduceEqDiff, Nat.reduceAdd, Nat.zero_add, not_false_eq_true, not_true_eq_false, intOf_int]
      refine ⟨⟨t0, lo, m, t3, rfl, b0, by omega, by omega, i1, fun j hj hk => ?_⟩, by rw [t3]; simp only [intOf_int]; omega⟩
      by_cases e : j = m
      · subst e; exact hd
      · have := (srt m j (by omega) hk (by omega)).2.1; omega
    · simp (disch := omega) only [wk, wt, wl, ↓reduceIte, Nat.reduceEqDiff, Nat.reduceAdd, Nat.zero_add, not_false_eq_true, not_true_eq_false, t0, t3, t4, GL, A0, A1, A2, Rd.index g5 underlying139 asz140 (q := .i64) (i := (m : Int)) (by omega) (by omega), arr_index underlying140 asz21, Int.reduceToNat]
      refine condK_dec (fun he => ?_) (fun he => ?_)
      · simp (disch := omega) only [wk, wt, wl, ↓reduceIte, Nat.reduceEqDiff, Nat.reduceAdd, Nat.zero_add, not_false_eq_true, not_true_eq_false, intOf_int, IntWalk.i64_in]
        refine ⟨⟨t0, m + 1, hi, rfl, t4, by omega, by omega, by omega, fun j hj => ?_, i2⟩, by rw [t4]; simp only [intOf_int]; omega⟩
        by_cases e : j = m
        · subst e; exact he
        · have := (srt j m (by omega) (by omega) (by omega)).2.2; omega
      · have hr := rgs_range ⟨m, hm18⟩
        simp only at hr
        simp (disch := omega) only [wk, wt, wl, ↓reduceIte, Nat.reduceEqDiff, Nat.reduceAdd, Nat.zero_add, not_false_eq_true, not_true_eq_false, t0, t3, t4, GL, A0, A1, A2, Rd.index g5 underlying139 asz140 (q := .i64) (i := (m : Int)) (by omega) (by omega), arr_index underlying140 asz21, Int.reduceToNat, aconv, IntWalk.i64_in]
        rw [width_in hm18 (by omega) (by omega)]
        exact ⟨rfl, trivial⟩
  · simp only [wk, wt, wl, ↓reduceIte, Nat.reduceEqDiff, Nat.reduceAdd, Nat.zero_add, not_false_eq_true, not_true_eq_false]
    rw [width_out fun m hm => ?_]
    · exact ⟨rfl, trivial⟩
    · by_cases e : (m : Int) < lo
      · exact .inr (i1 m e)
      · exact .inl (i2 m (by omega) hm)
end Go.Proofs.YtcgajolmjjeibaaDoor.Am
end
section
/- The unit that a rune makes: the contract of cell.unit, by a walk. -/
set_option linter.unusedSimpArgs false
set_option linter.unusedVariables false
set_option maxHeartbeats 4000000
set_option maxRecDepth 20000
namespace Go.Proofs.YtcgajolmjjeibaaDoor.Am
open Go Go.RowKit Go.Proofs.Tryd
def vI (l : List Int) : List Value := l.map (Value.int .i32)
def utext (r col tab : Int) : List Int := if r = 9 then List.replicate (tab - col % tab).toNat 32 else if widthZ r = 0 then [32, r] else showL r
def uwidth (r col tab : Int) : Int := if r = 9 then tab - col % tab else if widthZ r = 0 then 1 else widthZ r
theorem build_unit {h : Heap} {x y z : Int} : abuild prog 61 #[(0, .int .i64 x), (1, .int .i64 y), (2, .int .i64 z)] = some (.agg #[.int .i64 x, .int .i64 y, .int .i64 z, .int .i64 0, .slice none 0 0]) := by
  simp [abuild, wt, aplaces, Instr.fill, Value.cells]
theorem unit_ok {r i col tab : Int} {h : Heap} (h0 : isR r) (G : Gl h) (ht : 1 ≤ tab ∧ tab ≤ 64) (hc : 0 ≤ col ∧ col ≤ 1000000) (hi : 0 ≤ i ∧ i ≤ 1000000) :
    ACalls prog 82 #[.int .i32 r, .int .i64 i, .int .i64 col, .int .i64 tab] h
      (fun v h' => ∃ tv, v = .agg #[.int .i64 i, .int .i64 (i + 1), .int .i64 col, .int .i64 (uwidth r col tab), tv] ∧ Keeps h h' ∧ Own prog h.size h' 1 tv (utext r col tab).length (vI (utext r col tab)) ∧ ∀ b, blkOf tv = some b → h.size ≤ b) := by
  refine acalls_of_W' func82 rfl (by kernel_rfl) (by kernel_rfl) (by simp [ntmps82]) ?_
  intro H
  simp (disch := omega) only [wk, wt, wl, ↓reduceIte, Nat.reduceEqDiff, Nat.reduceAdd, Nat.zero_add, not_false_eq_true, not_true_eq_false, build_unit (h := h), IntWalk.i64_in, new_size]
  have K0 : Keeps h _ := Keeps.new H 61 [Value.int IntKind.i64 0, Value.int IntKind.i64 0, Value.int IntKind.i64 0, Value.int IntKind.i64 0, Value.slice none 0 0]
  have VA := Var.new (e := 61) H (cs := [Value.int IntKind.i64 0, Value.int IntKind.i64 0, Value.int IntKind.i64 0, Value.int IntKind.i64 0, Value.slice none 0 0])
  generalize hA : h.new 61 [Value.int IntKind.i64 0, Value.int IntKind.i64 0, Value.int IntKind.i64 0, Value.int IntKind.i64 0, Value.slice none 0 0] = hA' at *
  have zA : hA'.size = h.size + 1 := by rw [← hA]; rfl
  have K1 := Keeps.new (Ch.wf K0) 61 [Value.int IntKind.i64 0, Value.int IntKind.i64 0, Value.int IntKind.i64 0, Value.int IntKind.i64 0, Value.slice none 0 0]
  have VB := Var.new (e := 61) (Ch.wf K0) (cs := [Value.int IntKind.i64 0, Value.int IntKind.i64 0, Value.int IntKind.i64 0, Value.int IntKind.i64 0, Value.slice none 0 0])
  have VA1 := Keeps.var (Ch.wf K0) K1 VA
  rw [zA] at VB
  obtain ⟨h1, e1, VB1, C1, z1⟩ := VB.store (P := prog) (t := 61) (v := .agg #[.int .i64 i, .int .i64 (i + 1), .int .i64 col, .int .i64 0, .slice none 0 0]) (i := 0) (Ch.wf K1) asz61 (by simp [Value.cells]) (by simp [Value.cells, one])
  rw [e1]
  have VA2 := Ch.var (Ch.wf K1) C1 VA1 (by omega)
  have K2 : Keeps h h1 := (K0.trans K1).step C1 (fun b hb => by omega)
  clear e1 hA
  simp only [Value.cells, over_all (xs := [Value.int IntKind.i64 0, Value.int IntKind.i64 0, Value.int IntKind.i64 0, Value.int IntKind.i64 0, Value.slice none 0 0]) (vs := [.int .i64 i, .int .i64 (i + 1), .int .i64 col, .int .i64 0, .slice none 0 0]) rfl] at VB1
  have hm : tab ≠ 0 := by omega
  have hm0 : 0 ≤ col % tab := Int.emod_nonneg _ hm
  have hm1 : col % tab < tab := Int.emod_lt_of_pos _ (by omega)
  simp (disch := omega) only [wk, wt, wl, ↓reduceIte, Nat.reduceEqDiff, Nat.reduceAdd, Nat.zero_add, not_false_eq_true, not_true_eq_false]
  refine (width_ok h0 (G.keeps K2)).use_pure ?_
  simp only [wk, wt, wl, ↓reduceIte, Nat.reduceEqDiff, Nat.reduceAdd, Nat.zero_add, not_false_eq_true, not_true_eq_false]
  refine condK_dec (fun hr => ?_) (fun hr => ?_)
  · subst hr
    simp (disch := omega) only [wk, wt, wl, ↓reduceIte, Nat.reduceEqDiff, Nat.reduceAdd, Nat.zero_add, not_false_eq_true, not_true_eq_false, abin_rem (P := prog) (t := 3) (k := .i64) (x := col) (y := tab) hm, Int.tmod_eq_emod_of_nonneg, IntWalk.i64_in]
    obtain ⟨h2, e2, VB2, C2, z2⟩ := VB1.store1 (P := prog) (t := 3) (v := .int .i64 (tab - col % tab)) (i := 3) (Ch.wf K2) asz3 (by simp) rfl
    rw [e2]; clear e2
    have VA3 := Ch.var (Ch.wf K2) C2 VA2 (by omega)
    have K3 : Keeps h h2 := K2.step C2 (fun b hb => by omega)
    simp only [List.set_cons_succ, List.set_cons_zero] at VB2
    simp (disch := omega) only [wk, wt, wl, ↓reduceIte, Nat.reduceEqDiff, Nat.reduceAdd, Nat.zero_add, not_false_eq_true, not_true_eq_false, VB2.load1 (P := prog) (t := 3) underlying3 rfl (i := 3)]
    clear C1 C2 VA VA1 VB VB1 VA2 K0 K1 K2 z1 z2
    refine W_loop (fun tm h' => Keeps h h' ∧ tm 8 = .pointer (some ⟨h.size, 0, none⟩) ∧ tm 9 = .pointer (some ⟨h.size + 1, 0, none⟩) ∧ tm 33 = .int .i64 (tab - col % tab) ∧ ∃ (j : Nat) (tv : Value), tm 34 = .int .i64 j ∧ (j : Int) ≤ tab - col % tab ∧
      Var h' h.size [Value.int IntKind.i64 0, Value.int IntKind.i64 0, Value.int IntKind.i64 0, Value.int IntKind.i64 0, Value.slice none 0 0] ∧ Var h' (h.size + 1) [.int .i64 i, .int .i64 (i + 1), .int .i64 col, .int .i64 (tab - col % tab), tv] ∧
      (∀ b, blkOf tv = some b → h.size + 2 ≤ b) ∧ Own prog h.size h' 1 tv j (vI (List.replicate j 32)))
      (fun tm _ => (tab - col % tab - intOf (tm 34)).toNat) ⟨K3, (by first | rfl | (simp only [wk, wt, wl, ↓reduceIte, Nat.reduceEqDiff, Nat.reduceAdd, Nat.zero_add, not_false_eq_true, not_true_eq_false]; done) | (simp only [wk, wt, wl, ↓reduceIte, Nat.reduceEqDiff, Nat.reduceAdd, Nat.zero_add, not_false_eq_true, not_true_eq_false]; rfl)), (by first | rfl | (simp only [wk, wt, wl, ↓reduceIte, Nat.reduceEqDiff, Nat.reduceAdd, Nat.zero_add, not_false_eq_true, not_true_eq_false]; done) | (simp only [wk, wt, wl, ↓reduceIte, Nat.reduceEqDiff, Nat.reduceAdd, Nat.zero_add, not_false_eq_true, not_true_eq_false]; rfl)), (by first | rfl | (simp only [wk, wt, wl, ↓reduceIte, Nat.reduceEqDiff, Nat.reduceAdd, Nat.zero_add, not_false_eq_true, not_true_eq_false]; done) | (simp only [wk, wt, wl, ↓reduceIte, Nat.reduceEqDiff, Nat.reduceAdd, Nat.zero_add, not_false_eq_true, not_true_eq_false]; rfl)), 0, .slice none 0 0, (by first | rfl | (simp only [wk, wt, wl, ↓reduceIte, Nat.reduceEqDiff, Nat.reduceAdd, Nat.zero_add, not_false_eq_true, not_true_eq_false]; done) | (simp only [wk, wt, wl, ↓reduceIte, Nat.reduceEqDiff, Nat.reduceAdd, Nat.zero_add, not_false_eq_true, not_true_eq_false]; rfl)), by omega, VA3, VB2, by simp [blkOf], Own.nil0⟩ ?_
    clear VA3 VB2 K3 zA
    rintro tm h' ⟨K, t8, t9, t33, j, tv, t34, hj, VA, VB, nb, O⟩
    have nb1 : blkOf tv ≠ some h.size := fun e => by have := nb _ e; omega
    have nb2 : blkOf tv ≠ some (h.size + 1) := fun e => by have := nb _ e; omega
    simp (disch := omega) only [wk, wt, wl, ↓reduceIte, Nat.reduceEqDiff, Nat.reduceAdd, Nat.zero_add, not_false_eq_true, not_true_eq_false, t8, t9, t33, t34]
    refine condK_dec (fun hd => ?_) (fun hd => ?_)
    · simp (disch := omega) only [wk, wt, wl, ↓reduceIte, Nat.reduceEqDiff, Nat.reduceAdd, Nat.zero_add, not_false_eq_true, not_true_eq_false, t8, t9, t33, t34, VB.load1 (P := prog) (t := 23) underlying23 rfl (i := 4)]
      obtain ⟨tv', h3, e3, O3, C3, R3, ev3, k3, f3, f4⟩ := O.append1 (P := prog) (Ch.wf K) (Ch.le K) underlying23 elem21 fits21 (by decide) (by decide) (xs := [.int .i32 32]) rfl (by omega)
      rw [e3]; clear e3
      have VA3 := Ch.var (Ch.wf K) C3 VA (fun e => nb1 e.1)
      have VB3 := Ch.var (Ch.wf K) C3 VB (fun e => nb2 e.1)
      have K3 : Keeps h h3 := K.step C3 (fun b hb => hb.2)
      obtain ⟨h4, e4, VB4, C4, z4⟩ := VB3.store1 (P := prog) (t := 23) (v := tv') (i := 4) (Ch.wf K3) asz23 (by simp) (by rw [ev3]; rfl)
      simp (disch := omega) only [wk, wt, wl, ↓reduceIte, Nat.reduceEqDiff, Nat.reduceAdd, Nat.zero_add, not_false_eq_true, not_true_eq_false, t8, t9, t33, t34]
      rw [e4]; clear e4
      have VA4 := Ch.var (Ch.wf K3) C4 VA3 (by omega)
      have K4 : Keeps h h4 := K3.step C4 (fun b hb => by omega)
      have hsz : h.size + 2 ≤ h'.size := by have := VB.lt (Ch.wf K); omega
      have O4 := Ch.own C4 O3 (fun b hb e => by rw [ev3] at hb; simp only [blkOf, Option.some.injEq] at hb; omega)
      simp only [List.set_cons_succ, List.set_cons_zero] at VB4
      simp (disch := omega) only [wk, wt, wl, ↓reduceIte, Nat.reduceEqDiff, Nat.reduceAdd, Nat.zero_add, not_false_eq_true, not_true_eq_false, t8, t9, t33, t34, IntWalk.i64_in, intOf_int]
      refine ⟨⟨K4, j + 1, tv', by simp, by omega, VA4, VB4, ?_, ?_⟩, by omega⟩
      · intro b hb; rw [ev3] at hb; simp only [blkOf, Option.some.injEq] at hb; omega
      · rw [show vI (List.replicate (j + 1) 32) = vI (List.replicate j 32) ++ [.int .i32 32] by simp [vI, List.replicate_succ']]
        exact O4
    · simp (disch := omega) only [wk, wt, wl, ↓reduceIte, Nat.reduceEqDiff, Nat.reduceAdd, Nat.zero_add, not_false_eq_true, not_true_eq_false, t8, t9, t33, t34, VB.loadA (P := prog) (t := 61) underlying61 rfl asz61]
      obtain ⟨h3, e3, VA3, C3, z3⟩ := VA.store (P := prog) (t := 61) (v := .agg #[.int .i64 i, .int .i64 (i + 1), .int .i64 col, .int .i64 (tab - col % tab), tv]) (i := 0) (Ch.wf K) asz61 (by simp [Value.cells]) (by simp [Value.cells, one_int, O.1.one])
      rw [e3]; clear e3
      simp only [Value.cells, over_all (xs := [Value.int IntKind.i64 0, Value.int IntKind.i64 0, Value.int IntKind.i64 0, Value.int IntKind.i64 0, Value.slice none 0 0]) (vs := [.int .i64 i, .int .i64 (i + 1), .int .i64 col, .int .i64 (tab - col % tab), tv]) rfl] at VA3
      simp (disch := omega) only [wk, wt, wl, ↓reduceIte, Nat.reduceEqDiff, Nat.reduceAdd, Nat.zero_add, not_false_eq_true, not_true_eq_false, t8, t9, t33, t34, VA3.loadA (P := prog) (t := 61) underlying61 rfl asz61]
      have hj' : (j : Int) = tab - col % tab := by omega
      have hu : utext 9 col tab = List.replicate j 32 := by simp only [utext, if_true]; rw [← hj']; simp
      refine ⟨tv, by simp [uwidth], K.step C3 (fun b hb => by omega), ?_⟩
      rw [hu, List.length_replicate]
      exact ⟨Ch.own C3 O (fun b hb e => nb1 (by rw [← e]; exact hb)), fun b hb => by have := nb b hb; omega⟩
  · simp only [wk, wt, wl, ↓reduceIte, Nat.reduceEqDiff, Nat.reduceAdd, Nat.zero_add, not_false_eq_true, not_true_eq_false]
    refine condK_dec (fun hw => ?_) (fun hw => ?_)
    · simp only [wk, wt, wl, ↓reduceIte, Nat.reduceEqDiff, Nat.reduceAdd, Nat.zero_add, not_false_eq_true, not_true_eq_false]
      have hB : h.size + 1 < h1.size := VB1.lt (Ch.wf K2)
      have KN := Keeps.new (Ch.wf K2) 21 [.int .i32 32, .int .i32 r]
      have K3 := K2.trans KN
      have VA3 := Keeps.var (Ch.wf K2) KN VA2
      have VB2 := Keeps.var (Ch.wf K2) KN VB1
      have O3 : Own prog h.size _ 1 (.slice (some ⟨h1.size, 0, none⟩) 2 3) 2 [.int .i32 32, .int .i32 r] := Own.new (Ch.wf K2) (e := 21) (by omega) asz21 (by simp)
      generalize htv : Value.slice (some ⟨h1.size, 0, none⟩) 2 3 = tv at *
      have nb1 : blkOf tv ≠ some h.size := by rw [← htv]; simp only [blkOf, ne_eq, Option.some.injEq]; omega
      have nb2 : blkOf tv ≠ some (h.size + 1) := by rw [← htv]; simp only [blkOf, ne_eq, Option.some.injEq]; omega
      generalize h1.new 21 [.int .i32 32, .int .i32 r] = hN at *
      obtain ⟨h2, e2, VB3, C2, z2⟩ := VB2.store1 (P := prog) (t := 3) (v := .int .i64 1) (i := 3) (Ch.wf K3) asz3 (by simp) rfl
      rw [e2]; clear e2
      have VA4 := Ch.var (Ch.wf K3) C2 VA3 (by omega)
      have K4 : Keeps h h2 := K3.step C2 (fun b hb => by omega)
      have O4 := Ch.own C2 O3 (fun b hb e => nb2 (by rw [← e]; exact hb))
      simp only [List.set_cons_succ, List.set_cons_zero] at VB3
      obtain ⟨h3, e3, VB4, C3, z3⟩ := VB3.store1 (P := prog) (t := 23) (v := tv) (i := 4) (Ch.wf K4) asz23 (by simp) O4.1.one
      simp (disch := omega) only [wk, wt, wl, ↓reduceIte, Nat.reduceEqDiff, Nat.reduceAdd, Nat.zero_add, not_false_eq_true, not_true_eq_false]
      rw [e3]; clear e3
      have VA5 := Ch.var (Ch.wf K4) C3 VA4 (by omega)
      have K5 : Keeps h h3 := K4.step C3 (fun b hb => by omega)
      have O5 := Ch.own C3 O4 (fun b hb e => nb2 (by rw [← e]; exact hb))
      simp only [List.set_cons_succ, List.set_cons_zero] at VB4
      simp (disch := omega) only [wk, wt, wl, ↓reduceIte, Nat.reduceEqDiff, Nat.reduceAdd, Nat.zero_add, not_false_eq_true, not_true_eq_false, VB4.loadA (P := prog) (t := 61) underlying61 rfl asz61]
      obtain ⟨h4, e4, VA6, C4, z4⟩ := VA5.store (P := prog) (t := 61) (v := .agg #[.int .i64 i, .int .i64 (i + 1), .int .i64 col, .int .i64 1, tv]) (i := 0) (Ch.wf K5) asz61 (by simp [Value.cells]) (by simp [Value.cells, one_int, O4.1.one])
      rw [e4]; clear e4
      simp only [Value.cells, over_all (xs := [Value.int IntKind.i64 0, Value.int IntKind.i64 0, Value.int IntKind.i64 0, Value.int IntKind.i64 0, Value.slice none 0 0]) (vs := [.int .i64 i, .int .i64 (i + 1), .int .i64 col, .int .i64 1, tv]) rfl] at VA6
      simp (disch := omega) only [wk, wt, wl, ↓reduceIte, Nat.reduceEqDiff, Nat.reduceAdd, Nat.zero_add, not_false_eq_true, not_true_eq_false, VA6.loadA (P := prog) (t := 61) underlying61 rfl asz61]
      have hu : utext r col tab = [32, r] := by simp only [utext, hr, hw, if_false, if_true]
      have hu2 : uwidth r col tab = 1 := by simp only [uwidth, hr, hw, if_false, if_true]
      refine ⟨tv, by rw [hu2], K5.step C4 (fun b hb => by omega), ?_⟩
      rw [hu]
      exact ⟨Ch.own C4 O5 (fun b hb e => nb1 (by rw [← e]; exact hb)), fun b hb => by rw [← htv] at hb; simp only [blkOf, Option.some.injEq] at hb; omega⟩
    · simp only [wk, wt, wl, ↓reduceIte, Nat.reduceEqDiff, Nat.reduceAdd, Nat.zero_add, not_false_eq_true, not_true_eq_false]
      refine (show_ok h0).use_pure ?_
      simp only [wk, wt, wl, ↓reduceIte, Nat.reduceEqDiff, Nat.reduceAdd, Nat.zero_add, not_false_eq_true, not_true_eq_false]
      have hB : h.size + 1 < h1.size := VB1.lt (Ch.wf K2)
      have KN := Keeps.new (Ch.wf K2) 21 ((showL r).map (Value.int .i32))
      have K3 := K2.trans KN
      have VA3 := Keeps.var (Ch.wf K2) KN VA2
      have VB2 := Keeps.var (Ch.wf K2) KN VB1
      have O3 : Own prog h.size _ 1 (.slice (some ⟨h1.size, 0, none⟩) (showL r).length ((showL r).length + 1)) (showL r).length ((showL r).map (Value.int .i32)) := Own.new (Ch.wf K2) (e := 21) (by omega) asz21 (by simp)
      generalize htv : Value.slice (some ⟨h1.size, 0, none⟩) (showL r).length ((showL r).length + 1) = tv at *
      have nb1 : blkOf tv ≠ some h.size := by rw [← htv]; simp only [blkOf, ne_eq, Option.some.injEq]; omega
      have nb2 : blkOf tv ≠ some (h.size + 1) := by rw [← htv]; simp only [blkOf, ne_eq, Option.some.injEq]; omega
      generalize h1.new 21 ((showL r).map (Value.int .i32)) = hN at *
      obtain ⟨h2, e2, VB3, C2, z2⟩ := VB2.store1 (P := prog) (t := 3) (v := .int .i64 (widthZ r)) (i := 3) (Ch.wf K3) asz3 (by simp) rfl
      rw [e2]; clear e2
      have VA4 := Ch.var (Ch.wf K3) C2 VA3 (by omega)
      have K4 : Keeps h h2 := K3.step C2 (fun b hb => by omega)
      have O4 := Ch.own C2 O3 (fun b hb e => nb2 (by rw [← e]; exact hb))
      simp only [List.set_cons_succ, List.set_cons_zero] at VB3
      obtain ⟨h3, e3, VB4, C3, z3⟩ := VB3.store1 (P := prog) (t := 23) (v := tv) (i := 4) (Ch.wf K4) asz23 (by simp) O4.1.one
      simp (disch := omega) only [wk, wt, wl, ↓reduceIte, Nat.reduceEqDiff, Nat.reduceAdd, Nat.zero_add, not_false_eq_true, not_true_eq_false]
      rw [e3]; clear e3
      have VA5 := Ch.var (Ch.wf K4) C3 VA4 (by omega)
      have K5 : Keeps h h3 := K4.step C3 (fun b hb => by omega)
      have O5 := Ch.own C3 O4 (fun b hb e => nb2 (by rw [← e]; exact hb))
      simp only [List.set_cons_succ, List.set_cons_zero] at VB4
      simp (disch := omega) only [wk, wt, wl, ↓reduceIte, Nat.reduceEqDiff, Nat.reduceAdd, Nat.zero_add, not_false_eq_true, not_true_eq_false, VB4.loadA (P := prog) (t := 61) underlying61 rfl asz61]
      obtain ⟨h4, e4, VA6, C4, z4⟩ := VA5.store (P := prog) (t := 61) (v := .agg #[.int .i64 i, .int .i64 (i + 1), .int .i64 col, .int .i64 (widthZ r), tv]) (i := 0) (Ch.wf K5) asz61 (by simp [Value.cells]) (by simp [Value.cells, one_int, O4.1.one])
      rw [e4]; clear e4
      simp only [Value.cells, over_all (xs := [Value.int IntKind.i64 0, Value.int IntKind.i64 0, Value.int IntKind.i64 0, Value.int IntKind.i64 0, Value.slice none 0 0]) (vs := [.int .i64 i, .int .i64 (i + 1), .int .i64 col, .int .i64 (widthZ r), tv]) rfl] at VA6
      simp (disch := omega) only [wk, wt, wl, ↓reduceIte, Nat.reduceEqDiff, Nat.reduceAdd, Nat.zero_add, not_false_eq_true, not_true_eq_false, VA6.loadA (P := prog) (t := 61) underlying61 rfl asz61]
      have hu : utext r col tab = showL r := by simp only [utext, hr, hw, if_false, if_true]
      have hu2 : uwidth r col tab = (widthZ r) := by simp only [uwidth, hr, hw, if_false, if_true]
      refine ⟨tv, by rw [hu2], K5.step C4 (fun b hb => by omega), ?_⟩
      rw [hu]
      exact ⟨Ch.own C4 O5 (fun b hb e => nb1 (by rw [← e]; exact hb)), fun b hb => by rw [← htv] at hb; simp only [blkOf, Option.some.injEq] at hb; omega⟩
end Go.Proofs.YtcgajolmjjeibaaDoor.Am
end
section
/- The units of a line in plain terms, and how a row of them lies in memory. -/
set_option linter.unusedSimpArgs false
set_option linter.unusedVariables false
set_option maxHeartbeats 1000000
set_option maxRecDepth 20000
namespace Go.Proofs.YtcgajolmjjeibaaDoor.Am
open Go Go.RowKit Go.Proofs.Tryd
structure U where
  fr : Int
  to : Int
  col : Int
  wd : Int
  tx : List Int
/-- May a mark at i join the unit u? -/
def joins (line : List Int) (i : Nat) (u : U) : Bool :=
  decide (¬ line.getD u.fr.toNat 0 = 9) && decide ((if zeroB (line.getD u.fr.toNat 0) = true then (i : Int) - u.fr + 1 else (i : Int) - u.fr) ≤ 2)
def ustep (line : List Int) (tab : Int) (i : Nat) (r : Int) (st : List U × Int) : List U × Int :=
  match st.1.getLast? with
  | some u => if zeroB r = true ∧ joins line i u = true then (st.1.dropLast ++ [{ u with to := i + 1, tx := u.tx ++ [r] }], st.2)
    else (st.1 ++ [⟨i, i + 1, st.2, uwidth r st.2 tab, utext r st.2 tab⟩], st.2 + uwidth r st.2 tab)
  | none => (st.1 ++ [⟨i, i + 1, st.2, uwidth r st.2 tab, utext r st.2 tab⟩], st.2 + uwidth r st.2 tab)
def unitsTo (line : List Int) (tab : Int) : Nat → List U × Int
  | 0 => ([], 0)
  | n + 1 => ustep line tab n (line.getD n 0) (unitsTo line tab n)
def unitsL (line : List Int) (tab : Int) : List U := (unitsTo line (tabZ tab) line.length).1

theorem widthZ_range (r : Int) : 0 ≤ widthZ r ∧ widthZ r ≤ 2 := by
  unfold widthZ; split
  · omega
  · split <;> omega
theorem widthZ_zero {r : Int} : widthZ r = 0 ↔ zeroB r = true := by
  unfold widthZ; split
  · simp [*]
  · split <;> simp [*]
theorem uwidth_range {r col tab : Int} (ht : 1 ≤ tab ∧ tab ≤ 64) : 1 ≤ uwidth r col tab ∧ uwidth r col tab ≤ 64 := by
  have h1 : 0 ≤ col % tab := Int.emod_nonneg _ (by omega)
  have h2 : col % tab < tab := Int.emod_lt_of_pos _ (by omega)
  have := widthZ_range r
  unfold uwidth; split
  · omega
  · split <;> omega
theorem showL_len (r : Int) : (showL r).length ≤ 2 := by
  unfold showL; split
  · split <;> simp
  · split <;> simp
theorem utext_len {r col tab : Int} (ht : 1 ≤ tab ∧ tab ≤ 64) : (utext r col tab).length ≤ 64 := by
  have h1 : 0 ≤ col % tab := Int.emod_nonneg _ (by omega)
  have := showL_len r
  unfold utext; split
  · simp; omega
  · split
    · simp
    · omega
/-- What holds of the units of each beginning. -/
structure UOk (n : Nat) (us : List U) (col : Int) : Prop where
  col0 : 0 ≤ col
  col1 : col ≤ 64 * n
  each : ∀ u, u ∈ us → 0 ≤ u.fr ∧ u.fr < u.to ∧ u.to ≤ n ∧ 0 ≤ u.col ∧ 1 ≤ u.wd ∧ u.wd ≤ 64 ∧ u.col + u.wd ≤ col ∧ u.tx.length ≤ 64 + n
  last : ∀ u, us.getLast? = some u → u.to = n ∧ u.col + u.wd = col
  len : us.length ≤ n
theorem UOk.grow {n : Nat} {us : List U} {col r tab : Int} (H : UOk n us col) (ht : 1 ≤ tab ∧ tab ≤ 64) : UOk (n + 1) (us ++ [⟨n, n + 1, col, uwidth r col tab, utext r col tab⟩]) (col + uwidth r col tab) := by
  obtain ⟨h1, h2, h3, h4, h5⟩ := H
  have hw := uwidth_range (r := r) (col := col) ht
  have hl := utext_len (r := r) (col := col) ht
  refine ⟨by omega, by omega, fun u hu => ?_, fun u hu => ?_, by simp; omega⟩
  · rcases List.mem_append.1 hu with h | h
    · have := h3 u h; omega
    · simp only [List.mem_singleton] at h; subst h; simp only; omega
  · simp only [List.getLast?_append, List.getLast?_singleton, Option.some_or, Option.some.injEq] at hu
    subst hu; simp
theorem UOk.step {line : List Int} {n : Nat} {us : List U} {col r tab : Int} (H : UOk n us col) (ht : 1 ≤ tab ∧ tab ≤ 64) : UOk (n + 1) (ustep line tab n r (us, col)).1 (ustep line tab n r (us, col)).2 := by
  unfold ustep
  simp only
  split
  · rename_i u hu
    split
    · obtain ⟨h1, h2, h3, h4, h5⟩ := H
      have hne : us ≠ [] := by intro e; subst e; simp at hu
      have hm : u ∈ us := List.mem_of_getLast? hu
      have hu3 := h3 u hm
      have hu4 := h4 u hu
      refine ⟨h1, by simp only; omega, fun v hv => ?_, fun v hv => ?_, ?_⟩
      · rcases List.mem_append.1 hv with h | h
        · have := h3 v ((List.dropLast_sublist _).subset h); simp only at *; omega
        · simp only [List.mem_singleton] at h; subst h; simp only [List.length_append, List.length_singleton]; omega
      · simp only [List.getLast?_append, List.getLast?_singleton, Option.some_or, Option.some.injEq] at hv
        subst hv; simp only; omega
      · simp only [List.length_append, List.length_dropLast, List.length_singleton]; omega
    · exact H.grow ht
  · exact H.grow ht
theorem unitsTo_ok {line : List Int} {tab : Int} (ht : 1 ≤ tab ∧ tab ≤ 64) : ∀ n, UOk n (unitsTo line tab n).1 (unitsTo line tab n).2
  | 0 => ⟨by simp [unitsTo], by simp [unitsTo], fun u hu => by simp [unitsTo] at hu, fun u hu => by simp [unitsTo] at hu, by simp [unitsTo]⟩
  | n + 1 => by
    have := unitsTo_ok (line := line) ht n
    simp only [unitsTo]
    exact this.step ht
theorem tabZ_range (t : Int) : 1 ≤ tabZ t ∧ tabZ t ≤ 64 := by unfold tabZ; split <;> omega

def cellsU (x : U × Value) : List Value := [.int .i64 x.1.fr, .int .i64 x.1.to, .int .i64 x.1.col, .int .i64 x.1.wd, x.2]
theorem cellsU_len (uv : List (U × Value)) : (uv.flatMap cellsU).length = uv.length * 5 := by
  induction uv with
  | nil => rfl
  | cons x uv ih => simp [List.flatMap_cons, cellsU, ih]; omega
theorem cellsU_at {uv : List (U × Value)} : ∀ {i j : Nat} {x : U × Value}, uv[i]? = some x → j < 5 → (uv.flatMap cellsU)[i * 5 + j]? = (cellsU x)[j]? := by
  induction uv with
  | nil => intro i j x h; simp at h
  | cons y uv ih =>
    intro i j x h hj
    cases i with
    | zero =>
      simp at h; subst h
      rw [List.flatMap_cons, List.getElem?_append_left (by simp [cellsU]; omega)]; simp
    | succ i =>
      simp at h
      rw [List.flatMap_cons, List.getElem?_append_right (by simp [cellsU]; omega)]
      rw [← ih h hj]
      congr 1
      simp [cellsU]; omega
theorem cellsU_set {pre : List (U × Value)} {x : U × Value} {j : Nat} {w : Value} (hj : j < 5) : ((pre ++ [x]).flatMap cellsU).set (pre.length * 5 + j) w = pre.flatMap cellsU ++ (cellsU x).set j w := by
  rw [List.flatMap_append, List.set_append, if_neg (by rw [cellsU_len]; omega)]
  rw [cellsU_len]
  congr 1
  rw [show pre.length * 5 + j - pre.length * 5 = j by omega]
  simp
/-- A row of units as a function reads it. -/
structure UR (h : Heap) (l : Value) (uv : List (U × Value)) : Prop where
  rd : Rd prog h 5 l uv.length (uv.flatMap cellsU)
  txt : ∀ x, x ∈ uv → RdI prog h .i32 x.2 x.1.tx
/-- A row of units that a function makes. -/
structure UL (B : Nat) (h : Heap) (l : Value) (uv : List (U × Value)) : Prop where
  own : Own prog B h 5 l uv.length (uv.flatMap cellsU)
  txt : ∀ x, x ∈ uv → RdI prog h .i32 x.2 x.1.tx
  fam : ∀ x, x ∈ uv → ∀ b k bl kl, blkOf x.2 = some b → h.get b = some k → blkOf l = some bl → h.get bl = some kl → k.fam ≠ kl.fam
  last : ∀ pre x, uv = pre ++ [x] → Own prog B h 1 x.2 x.1.tx.length (vI x.1.tx)
  frm : (uv = [] ∧ l = .slice none 0 0) ∨ ∃ a, l = .slice (some a) uv.length 0
theorem UL.ur {B : Nat} {h : Heap} {l : Value} {uv : List (U × Value)} (H : UL B h l uv) : UR h l uv := ⟨H.own.1, H.txt⟩
theorem UL.nil {B : Nat} {h : Heap} : UL B h (.slice none 0 0) [] :=
  ⟨Own.nil0, fun x hx => by simp at hx, fun x hx => by simp at hx, fun pre x e => by simp at e, .inl ⟨rfl, rfl⟩⟩
theorem UR.keeps {h h' : Heap} {l : Value} {uv : List (U × Value)} (H : UR h l uv) (K : Keeps h h') : UR h' l uv := ⟨H.rd.keeps K, fun x hx => (H.txt x hx).keeps K⟩
theorem UL.keeps {B : Nat} {h h' : Heap} {l : Value} {uv : List (U × Value)} (H : UL B h l uv) (K : Keeps h h') : UL B h' l uv := by
  refine ⟨H.own.keeps K, fun x hx => (H.txt x hx).keeps K, fun x hx b k bl kl h1 h2 h3 h4 => ?_, fun pre x e => (H.last pre x e).keeps K, H.frm⟩
  rw [K.at ((H.txt x hx).blk_lt h1).1] at h2
  rw [K.at (H.own.1.blk_lt h3).1] at h4
  exact H.fam x hx b k bl kl h1 h2 h3 h4
end Go.Proofs.YtcgajolmjjeibaaDoor.Am
end
section
/- A row of units grows by one; a mark joins its last unit: what becomes of memory. -/
set_option linter.unusedSimpArgs false
set_option linter.unusedVariables false
set_option maxHeartbeats 1000000
set_option maxRecDepth 20000
namespace Go.Proofs.YtcgajolmjjeibaaDoor.Am
open Go Go.RowKit Go.Proofs.Tryd
theorem UL.push {B : Nat} {h : Heap} {l tv : Value} {uv : List (U × Value)} {u : U} (H : Wf h) (hB : B ≤ h.size) (L : UL B h l uv) (O : Own prog B h 1 tv u.tx.length (vI u.tx))
    (hf : ∀ b k bl kl, blkOf tv = some b → h.get b = some k → blkOf l = some bl → h.get bl = some kl → k.fam ≠ kl.fam) (hbig : uv.length ≤ 1000000) :
    ∃ l' h', aappend prog (h.new 61 (cellsU (u, tv))) 44 44 l (.slice (some ⟨h.size, 0, none⟩) 1 2) = some (l', h') ∧ UL B h' l' (uv ++ [(u, tv)]) ∧ Ch (fun b => blkOf l = some b ∧ B ≤ b) h h' := by
  obtain ⟨l', h', e, O', C, R, el, k1, g1, g2⟩ := L.own.append1 (P := prog) H hB underlying44 elem61 fits61 (by decide) (by decide) (xs := cellsU (u, tv)) rfl (by omega)
  have all : ∀ x, x ∈ uv ++ [(u, tv)] → RdI prog h .i32 x.2 x.1.tx ∧ ∀ b k bl kl, blkOf x.2 = some b → h.get b = some k → blkOf l = some bl → h.get bl = some kl → k.fam ≠ kl.fam := fun x hx => by
    rcases List.mem_append.1 hx with hx | hx
    · exact ⟨L.txt x hx, L.fam x hx⟩
    · simp only [List.mem_singleton] at hx; subst hx; exact ⟨O.1, hf⟩
  refine ⟨l', h', e, ⟨?_, fun x hx => Rd.reads (all x hx).1 C.le R, fun x hx b k bl kl h1 h2 h3 h4 => ?_, fun pre x ep => ?_, .inr ⟨⟨h.size + 1, 0, none⟩, by rw [el]; simp⟩⟩, C⟩
  · have : (uv ++ [(u, tv)]).flatMap cellsU = uv.flatMap cellsU ++ cellsU (u, tv) := by simp
    rw [this, List.length_append]; exact O'
  · have hb := (all x hx).1.blk_lt h1
    rw [el] at h3
    simp only [blkOf, Option.some.injEq] at h3
    subst h3
    rw [g1] at h4; cases h4
    obtain ⟨k0, q1, q2⟩ := C.2.2.2.2.1 b k hb.1 h2
    have := H.2 b k0 q1
    rcases g2 with g2 | ⟨y, k', p1, p2, p3, p4⟩
    · have := hb.1; omega
    · rw [q2, p4]; exact (all x hx).2 b k0 y k' h1 q1 p1 p3
  · have hx : x = (u, tv) := by
      have := congrArg List.getLast? ep
      simp at this; exact this.symm
    subst hx
    refine Ch.own C O fun b hb hd => ?_
    obtain ⟨_, k, hk, _⟩ := O.1.blk_lt hb
    exact hf b k b k hb hk hd.1 hk rfl
/-- A value's memory is not that of block bl. -/
def NF (h : Heap) (bl : Nat) (x : Value) : Prop := ∀ b k kl, blkOf x = some b → h.get b = some k → h.get bl = some kl → k.fam ≠ kl.fam
theorem NF.ch {D : Nat → Prop} {h h' : Heap} {bl : Nat} {x : Value} (N : NF h bl x) (C : Ch D h h') (hx : ∀ b, blkOf x = some b → b < h.size) (hb : bl < h.size) : NF h' bl x := fun b k kl h1 h2 h3 => by
  obtain ⟨k0, q1, q2⟩ := C.2.2.2.2.1 b k (hx b h1) h2
  obtain ⟨k1, p1, p2⟩ := C.2.2.2.2.1 bl kl hb h3
  rw [q2, p2]; exact N b k0 k1 h1 q1 p1
theorem NF.out {h : Heap} {bl : Nat} {x : Value} (N : NF h bl x) : ∀ b, blkOf x = some b → ¬ FamOf h bl b := fun b hb ⟨k, kb, h1, h2, h3⟩ => N b k kb hb h1 h2 h3
theorem UL.mark {B : Nat} {h : Heap} {l tv : Value} {pre : List (U × Value)} {u : U} {r t : Int} (H : Wf h) (hB : B ≤ h.size) (L : UL B h l (pre ++ [(u, tv)])) (hbig : u.tx.length ≤ 1000000) :
    ∃ tv' h1 h2 h3, aappend prog (h.new 21 [.int .i32 r]) 23 23 tv (.slice (some ⟨h.size, 0, none⟩) 1 2) = some (tv', h1) ∧
      storeV prog h1 3 (.pointer (some ⟨(eltA l 5 pre.length).block, (eltA l 5 pre.length).off + 1, none⟩)) (.int .i64 t) = some (undef, h2) ∧
      storeV prog h2 23 (.pointer (some ⟨(eltA l 5 pre.length).block, (eltA l 5 pre.length).off + 4, none⟩)) tv' = some (undef, h3) ∧
      UL B h3 l (pre ++ [({ u with to := t, tx := u.tx ++ [r] }, tv')]) ∧ ∀ h0, h0.size = B → Keeps h0 h → Keeps h0 h3 := by
  have Otv := L.last pre (u, tv) rfl
  obtain ⟨tv', h1, e1, O1, C1, R1, ev, k3, g1, g2⟩ := Otv.append1 (P := prog) H hB underlying23 elem21 fits21 (by decide) (by decide) (xs := [.int .i32 r]) rfl (by simp only; omega)
  have hf : ∃ a, l = .slice (some a) (pre.length + 1) 0 := by
    rcases L.frm with ⟨e, _⟩ | ⟨a, e⟩
    · simp at e
    · exact ⟨a, by rw [e]; simp⟩
  obtain ⟨a, rfl⟩ := hf
  have hbl := L.own.1.blk_lt (b := a.block) rfl
  obtain ⟨hbl, kl, hkl, _⟩ := hbl
  have Nx : ∀ x, x ∈ pre ++ [(u, tv)] → NF h a.block x.2 := fun x hx b k kl h1 h2 h3 => L.fam x hx b k a.block kl h1 h2 rfl h3
  have Ntv := Nx (u, tv) (by simp)
  have OL1 : Own prog B h1 5 (.slice (some a) (pre.length + 1) 0) (pre.length + 1) ((pre ++ [(u, tv)]).flatMap cellsU) := by
    have := Ch.own C1 L.own fun b hb hd => by
      simp only [blkOf, Option.some.injEq] at hb; subst hb
      exact Ntv a.block kl kl hd.1 hkl hkl rfl
    simpa using this
  have hbl1 : a.block < h1.size := Nat.lt_of_lt_of_le hbl C1.le
  have N1 : ∀ x, x ∈ pre → NF h1 a.block x.2 := fun x hx => (Nx x (by simp [hx])).ch C1 (fun b hb => ((L.txt x (by simp [hx])).blk_lt hb).1) hbl
  have T1 : ∀ x, x ∈ pre → RdI prog h1 .i32 x.2 x.1.tx := fun x hx => Rd.reads (L.txt x (by simp [hx])) C1.le R1
  have Nv1 : NF h1 a.block tv' := fun b k kb q1 q2 q3 => by
    rw [ev] at q1; simp only [blkOf, Option.some.injEq] at q1; subst q1
    rw [g1] at q2; cases q2
    obtain ⟨k0, p1, p2⟩ := C1.2.2.2.2.1 a.block kb hbl q3
    rw [hkl] at p1; cases p1
    have := H.2 _ _ hkl
    rcases g2 with g2 | ⟨y, k', s1, s2, s3, s4⟩
    · omega
    · rw [s4, p2]; exact Ntv y k' kl s1 s3 hkl
  obtain ⟨h2, e2, OL2, C2, z2, _⟩ := Own.store (P := prog) (C1.wf) OL1 (t := 3) (w := .int .i64 t) (i := pre.length) (j := 1) asz3 rfl (by omega) (by omega)
  have hbl2 : a.block < h2.size := by omega
  have O2 := Ch.own C2 O1 Nv1.out
  have Nv2 := Nv1.ch C2 (fun b hb => (O1.1.blk_lt hb).1) hbl1
  have N2 : ∀ x, x ∈ pre → NF h2 a.block x.2 := fun x hx => (N1 x hx).ch C2 (fun b hb => ((T1 x hx).blk_lt hb).1) hbl1
  have T2 : ∀ x, x ∈ pre → RdI prog h2 .i32 x.2 x.1.tx := fun x hx => Ch.rd C2 (T1 x hx) (N1 x hx).out
  rw [cellsU_set (by omega), show (cellsU (u, tv)).set 1 (.int .i64 t) = cellsU ({ u with to := t }, tv) from rfl, show pre.flatMap cellsU ++ cellsU ({ u with to := t }, tv) = (pre ++ [({ u with to := t }, tv)]).flatMap cellsU by simp] at OL2
  obtain ⟨h3, e3, OL3, C3, z3, _⟩ := Own.store (P := prog) (C2.wf) OL2 (t := 23) (w := tv') (i := pre.length) (j := 4) asz23 O2.1.one (by omega) (by omega)
  have O3 := Ch.own C3 O2 Nv2.out
  have Nv3 := Nv2.ch C3 (fun b hb => (O2.1.blk_lt hb).1) hbl2
  have N3 : ∀ x, x ∈ pre → NF h3 a.block x.2 := fun x hx => (N2 x hx).ch C3 (fun b hb => ((T2 x hx).blk_lt hb).1) hbl2
  have T3 : ∀ x, x ∈ pre → RdI prog h3 .i32 x.2 x.1.tx := fun x hx => Ch.rd C3 (T2 x hx) (N2 x hx).out
  rw [cellsU_set (by omega), show (cellsU ({ u with to := t }, tv)).set 4 tv' = cellsU ({ u with to := t, tx := u.tx ++ [r] }, tv') from rfl, show pre.flatMap cellsU ++ cellsU ({ u with to := t, tx := u.tx ++ [r] }, tv') = (pre ++ [({ u with to := t, tx := u.tx ++ [r] }, tv')]).flatMap cellsU by simp] at OL3
  have O3' : Own prog B h3 1 tv' (u.tx ++ [r]).length (vI (u.tx ++ [r])) := by
    simpa [vI] using O3
  refine ⟨tv', h1, h2, h3, e1, e2, e3, ⟨by simpa using OL3, fun x hx => ?_, fun x hx b k bl kb q1 q2 q3 q4 => ?_, fun p x e => ?_, .inr ⟨a, by simp⟩⟩, fun h0 hz K => ?_⟩
  · rcases List.mem_append.1 hx with hx | hx
    · exact T3 x hx
    · simp only [List.mem_singleton] at hx; subst hx; exact O3'.1
  · simp only [blkOf, Option.some.injEq] at q3; subst q3
    rcases List.mem_append.1 hx with hx | hx
    · exact N3 x hx b k kb q1 q2 q4
    · simp only [List.mem_singleton] at hx; subst hx; exact Nv3 b k kb q1 q2 q4
  · have hx : x = ({ u with to := t, tx := u.tx ++ [r] }, tv') := by
      have := congrArg List.getLast? e
      simp at this; exact this.symm
    subst hx; exact O3'
  · have famB : ∀ (hh : Heap), Keeps h0 hh → a.block < hh.size → B ≤ a.block → ∀ b, FamOf hh a.block b → h0.size ≤ b := fun hh KK hlt hBa b ⟨k, kb, q1, q2, q3⟩ => by
      have f1 := (KK.2.2.2.1 a.block kb (by omega) q2).resolve_right fun ⟨_, _, e, _⟩ => e
      have f2 := KK.1.2 b k q1
      omega
    have hBa : B ≤ a.block := by
      obtain ⟨b, o, k, e, hb, _⟩ := OL1.third
      rw [e]; exact hb
    have K1 : Keeps h0 h1 := K.step C1 fun b hb => by rw [hz]; exact hb.2
    have K2 : Keeps h0 h2 := K1.step C2 (famB h1 K1 hbl1 hBa)
    exact K2.step C3 (famB h2 K2 hbl2 hBa)
end Go.Proofs.YtcgajolmjjeibaaDoor.Am
end
section
/- The units of any line: the contract of cell.Units, by a walk. -/
set_option linter.unusedSimpArgs false
set_option linter.unusedVariables false
set_option maxHeartbeats 2000000
set_option maxRecDepth 20000
namespace Go.Proofs.YtcgajolmjjeibaaDoor.Am
open Go Go.RowKit Go.Proofs.Tryd
theorem ustep_push {line : List Int} {tab : Int} {i : Nat} {r : Int} {us : List U} {col : Int} (h : us = [] ∨ ¬ zeroB r = true ∨ ∃ u, us.getLast? = some u ∧ joins line i u = false) :
    ustep line tab i r (us, col) = (us ++ [⟨i, i + 1, col, uwidth r col tab, utext r col tab⟩], col + uwidth r col tab) := by
  unfold ustep
  simp only
  cases hl : us.getLast? with
  | none => rfl
  | some u =>
    simp only
    rw [if_neg]
    rintro ⟨h1, h2⟩
    rcases h with h | h | ⟨u', h3, h4⟩
    · subst h; simp at hl
    · exact h h1
    · rw [hl] at h3; cases h3; rw [h2] at h4; cases h4
theorem ustep_join {line : List Int} {tab : Int} {i : Nat} {r : Int} {pre : List U} {u : U} {col : Int} (h1 : zeroB r = true) (h2 : joins line i u = true) :
    ustep line tab i r (pre ++ [u], col) = (pre ++ [{ u with to := i + 1, tx := u.tx ++ [r] }], col) := by
  unfold ustep
  simp [h1, h2]
theorem unitsOwn_ok {a : Value} {line : List Int} {tab : Int} {h : Heap} (ha : RdI prog h .i32 a line) (G : Gl h) (hline : ∀ j, isR (line.getD j 0)) (hlen : line.length ≤ 10000) :
    ACalls prog 70 #[a, .int .i64 tab] h (fun v h' => ∃ uv, uv.map (·.1) = unitsL line tab ∧ UL h.size h' v uv ∧ Keeps h h') := by
  refine acalls_of_W' func70 rfl (by kernel_rfl) (by kernel_rfl) (by simp [ntmps70]) ?_
  intro H
  simp only [wk, wt, wl, ↓reduceIte, Nat.reduceEqDiff, Nat.reduceAdd, Nat.zero_add, not_false_eq_true, not_true_eq_false, RdI.len ha underlying23]
  repeat' (first
      | (with_reducible refine condK_dec (fun hc => ?_) (fun hc => ?_) <;> simp only [wk, wt, wl, ↓reduceIte, Nat.reduceEqDiff, Nat.reduceAdd, Nat.zero_add, not_false_eq_true, not_true_eq_false, RdI.len ha underlying23, hc])
      | (with_reducible refine condK_split (fun hc => ?_) (fun hc => ?_) <;> simp only [wk, wt, wl, ↓reduceIte, Nat.reduceEqDiff, Nat.reduceAdd, Nat.zero_add, not_false_eq_true, not_true_eq_false, RdI.len ha underlying23, hc])
      | (with_reducible refine gateO_dec (fun hc => ?_) (fun hc => ?_) <;> simp only [wk, wt, wl, ↓reduceIte, Nat.reduceEqDiff, Nat.reduceAdd, Nat.zero_add, not_false_eq_true, not_true_eq_false, RdI.len ha underlying23, hc])
      | (with_reducible refine gateO_decF (fun hc => ?_) (fun hc => ?_) <;> simp only [wk, wt, wl, ↓reduceIte, Nat.reduceEqDiff, Nat.reduceAdd, Nat.zero_add, not_false_eq_true, not_true_eq_false, RdI.len ha underlying23, hc])
      | (with_reducible refine gateO_boolT (fun hc => ?_) (fun hc => ?_) <;> simp only [wk, wt, wl, ↓reduceIte, Nat.reduceEqDiff, Nat.reduceAdd, Nat.zero_add, not_false_eq_true, not_true_eq_false, RdI.len ha underlying23, hc])
      | (with_reducible refine gateO_boolF (fun hc => ?_) (fun hc => ?_) <;> simp only [wk, wt, wl, ↓reduceIte, Nat.reduceEqDiff, Nat.reduceAdd, Nat.zero_add, not_false_eq_true, not_true_eq_false, RdI.len ha underlying23, hc]))
  all_goals
    refine W_loop (fun tm h' => Keeps h h' ∧ tm 0 = a ∧ tm 1 = .int .i64 (tabZ tab) ∧ tm 19 = a ∧ tm 20 = .int .i64 line.length ∧ ∃ (i : Nat) (l : Value) (uv : List (U × Value)), tm 21 = .int .i64 i ∧ i ≤ line.length ∧
      tm 6 = .int .i64 (unitsTo line (tabZ tab) i).2 ∧ tm 5 = l ∧ UL h.size h' l uv ∧ uv.map (·.1) = (unitsTo line (tabZ tab) i).1) (fun tm _ => (line.length - intOf (tm 21)).toNat)
      ⟨Keeps.refl H, (by first | rfl | (simp only [wk, wt, wl, ↓reduceIte, Nat.reduceEqDiff, Nat.reduceAdd, Nat.zero_add, not_false_eq_true, not_true_eq_false]; done) | (simp only [wk, wt, wl, ↓reduceIte, Nat.reduceEqDiff, Nat.reduceAdd, Nat.zero_add, not_false_eq_true, not_true_eq_false]; rfl)), by (simp only [wk, wt, wl, ↓reduceIte, Nat.reduceEqDiff, Nat.reduceAdd, Nat.zero_add, not_false_eq_true, not_true_eq_false]); simp only [tabZ, Value.int.injEq, true_and]; first | (rw [if_pos (by omega)]; done) | (rw [if_neg (by omega)]; done), (by first | rfl | (simp only [wk, wt, wl, ↓reduceIte, Nat.reduceEqDiff, Nat.reduceAdd, Nat.zero_add, not_false_eq_true, not_true_eq_false]; done) | (simp only [wk, wt, wl, ↓reduceIte, Nat.reduceEqDiff, Nat.reduceAdd, Nat.zero_add, not_false_eq_true, not_true_eq_false]; rfl)), (by first | rfl | (simp only [wk, wt, wl, ↓reduceIte, Nat.reduceEqDiff, Nat.reduceAdd, Nat.zero_add, not_false_eq_true, not_true_eq_false]; done) | (simp only [wk, wt, wl, ↓reduceIte, Nat.reduceEqDiff, Nat.reduceAdd, Nat.zero_add, not_false_eq_true, not_true_eq_false]; rfl)), 0, .slice none 0 0, [], (by first | rfl | (simp only [wk, wt, wl, ↓reduceIte, Nat.reduceEqDiff, Nat.reduceAdd, Nat.zero_add, not_false_eq_true, not_true_eq_false]; done) | (simp only [wk, wt, wl, ↓reduceIte, Nat.reduceEqDiff, Nat.reduceAdd, Nat.zero_add, not_false_eq_true, not_true_eq_false]; rfl)), by omega, (by first | rfl | (simp only [wk, wt, wl, ↓reduceIte, Nat.reduceEqDiff, Nat.reduceAdd, Nat.zero_add, not_false_eq_true, not_true_eq_false]; done) | (simp only [wk, wt, wl, ↓reduceIte, Nat.reduceEqDiff, Nat.reduceAdd, Nat.zero_add, not_false_eq_true, not_true_eq_false]; rfl)), (by first | rfl | (simp only [wk, wt, wl, ↓reduceIte, Nat.reduceEqDiff, Nat.reduceAdd, Nat.zero_add, not_false_eq_true, not_true_eq_false]; done) | (simp only [wk, wt, wl, ↓reduceIte, Nat.reduceEqDiff, Nat.reduceAdd, Nat.zero_add, not_false_eq_true, not_true_eq_false]; rfl)), UL.nil, rfl⟩ ?_
    rintro tm h' ⟨K, t0, t1, t19, t20, i, l, uv, t21, hi, t6, t5, L, hus⟩
    have UO := unitsTo_ok (line := line) (tabZ_range tab) i
    have ha' := ha.keeps K
    have hlen' : uv.length = (unitsTo line (tabZ tab) i).1.length := by rw [← hus]; simp
    have hul := UO.len
    have hc0 := UO.col0
    have hc1 := UO.col1
    simp only [wk, wt, wl, ↓reduceIte, Nat.reduceEqDiff, Nat.reduceAdd, Nat.zero_add, not_false_eq_true, not_true_eq_false, t0, t1, t19, t20, t21]
    refine condK_dec (fun hd => ?_) (fun hd => ?_)
    · simp only [wk, wt, wl, ↓reduceIte, Nat.reduceEqDiff, Nat.reduceAdd, Nat.zero_add, not_false_eq_true, not_true_eq_false, t0, t1, t5, t6, t19, t20, t21, RdI.index ha' underlying23 asz21 (q := .i64) (i := i) (by omega) (by omega), RdI.at ha' underlying21 rfl (i := i) (by omega), Rd.len L.own.1 underlying44]
      refine gateO_dec (fun hn => ?_) (fun hn => ?_)
      · simp only [wk, wt, wl, ↓reduceIte, Nat.reduceEqDiff, Nat.reduceAdd, Nat.zero_add, not_false_eq_true, not_true_eq_false, t0, t1, t5, t6, t19, t20, t21, hn]
        refine (width_ok (hline i) (G.keeps K)).use_pure ?_
        simp only [wk, wt, wl, ↓reduceIte, Nat.reduceEqDiff, Nat.reduceAdd, Nat.zero_add, not_false_eq_true, not_true_eq_false, t0, t1, t5, t6, t19, t20, t21, hn]
        refine condK_dec (fun hz => ?_) (fun hz => ?_)
        · have hne : uv ≠ [] := by intro e; subst e; simp at hn
          obtain ⟨pre, ⟨u, tv⟩, rfl⟩ : ∃ pre x, uv = pre ++ [x] := ⟨uv.dropLast, uv.getLast hne, (List.dropLast_concat_getLast hne).symm⟩
          have hlast : (unitsTo line (tabZ tab) i).1.getLast? = some u := by rw [← hus]; simp
          have hu := UO.each u (List.mem_of_getLast? hlast)
          have hcl := fun (j : Nat) (hj : j < 5) => (L.own.1.at (t := 3) underlying3 rfl (i := pre.length) (j := j) (by simp) hj).trans (cellsU_at (x := (u, tv)) (by simp) hj)
          have F0 : aload prog h' 3 ⟨(eltA l 5 pre.length).block, (eltA l 5 pre.length).off + 0, none⟩ = some (.int .i64 u.fr) := hcl 0 (by omega)
          have F4 : aload prog h' 23 ⟨(eltA l 5 pre.length).block, (eltA l 5 pre.length).off + 4, none⟩ = some tv := (L.own.1.at (t := 23) underlying23 rfl (i := pre.length) (j := 4) (by simp) (by omega)).trans (cellsU_at (x := (u, tv)) (by simp) (by omega))
          have hll : ((pre ++ [(u, tv)]).length : Int) = (pre.length : Int) + 1 := by simp
          have hidx : ((pre.length : Int) + 1 - 1).toNat = pre.length := by omega
          have hp : pre.length + 1 = (unitsTo line (tabZ tab) i).1.length := by rw [← hlen']; simp
          rw [hll]
          rw [hll] at hn
          simp (disch := omega) only [wk, wt, wl, ↓reduceIte, Nat.reduceEqDiff, Nat.reduceAdd, Nat.zero_add, not_false_eq_true, not_true_eq_false, t0, t1, t5, t6, t19, t20, t21, hn, IntWalk.i64_in, Rd.index L.own.1 underlying44 asz61 (q := .i64) (i := (pre.length : Int) + 1 - 1) (by omega) (by simp only [List.length_append, List.length_singleton]; omega), hidx, F0, RdI.index ha' underlying23 asz21 (q := .i64) (i := u.fr) (by omega) (by omega), RdI.at ha' underlying21 rfl (i := u.fr.toNat) (by omega)]
          refine (width_ok (hline _) (G.keeps K)).use_pure ?_
          simp only [wk, wt, wl, ↓reduceIte, Nat.reduceEqDiff, Nat.reduceAdd, Nat.zero_add, not_false_eq_true, not_true_eq_false, t0, t1, t5, t6, t19, t20, t21, hn]
          refine condK_dec (fun hz2 => ?_) (fun hz2 => ?_)
          · have hz3 := widthZ_zero.1 hz2
            simp (disch := omega) only [wk, wt, wl, ↓reduceIte, Nat.reduceEqDiff, Nat.reduceAdd, Nat.zero_add, not_false_eq_true, not_true_eq_false, t0, t1, t5, t6, t19, t20, t21, IntWalk.i64_in, F0, RdI.index ha' underlying23 asz21 (q := .i64) (i := u.fr) (by omega) (by omega), RdI.at ha' underlying21 rfl (i := u.fr.toNat) (by omega)]
            refine gateO_dec (fun h9 => ?_) (fun h9 => ?_)
            · simp (disch := omega) only [wk, wt, wl, ↓reduceIte, Nat.reduceEqDiff, Nat.reduceAdd, Nat.zero_add, not_false_eq_true, not_true_eq_false, t0, t1, t5, t6, t19, t20, t21, h9, IntWalk.i64_in, F0, RdI.index ha' underlying23 asz21 (q := .i64) (i := u.fr) (by omega) (by omega), RdI.at ha' underlying21 rfl (i := u.fr.toNat) (by omega)]
              refine condK_dec (fun hm => ?_) (fun hm => ?_)
              · have hj : joins line i u = true := by unfold joins; simp only [hz3, h9, if_true, if_false, Bool.false_eq_true, not_false_eq_true, decide_true, Bool.true_and, decide_eq_true_eq]; omega
                obtain ⟨tv', m1, m2, m3, e1, e2, e3, L', KK⟩ := UL.mark (r := line.getD i 0) (t := (i : Int) + 1) (Ch.wf K) (Ch.le K) L (by omega)
                simp (disch := omega) only [wk, wt, wl, ↓reduceIte, Nat.reduceEqDiff, Nat.reduceAdd, Nat.zero_add, not_false_eq_true, not_true_eq_false, t0, t1, t5, t6, t19, t20, t21, IntWalk.i64_in, F4, e1, e2, e3, intOf_int]
                have hst : unitsTo line (tabZ tab) i = (pre.map (·.1) ++ [u], (unitsTo line (tabZ tab) i).2) := Prod.ext (by rw [← hus]; simp) rfl
                have hs1 : unitsTo line (tabZ tab) (i + 1) = _ := (congrArg (ustep line (tabZ tab) i (line.getD i 0)) hst).trans (ustep_join (widthZ_zero.1 hz) hj)
                refine ⟨⟨KK h rfl K, i + 1, l, _, by simp, by omega, ?_, rfl, L', ?_⟩, by omega⟩
                · rw [hs1]
                · rw [hs1]; simp
              · have hpu : (unitsTo line (tabZ tab) i).1 = [] ∨ ¬ zeroB (line.getD i 0) = true ∨ ∃ u, (unitsTo line (tabZ tab) i).1.getLast? = some u ∧ joins line i u = false := .inr (.inr ⟨u, hlast, by unfold joins; simp only [hz3, h9, if_true, if_false, Bool.false_eq_true, not_false_eq_true, decide_true, Bool.true_and, decide_eq_false_iff_not]; omega⟩)
                simp only [wk, wt, wl, ↓reduceIte, Nat.reduceEqDiff, Nat.reduceAdd, Nat.zero_add, not_false_eq_true, not_true_eq_false, t0, t1, t5, t6, t19, t20, t21]
                refine (unit_ok (hline i) (G.keeps K) (tabZ_range tab) ⟨UO.col0, by omega⟩ ⟨by omega, by omega⟩).use ?_
                rintro _ h2 ⟨tv2, rfl, K2, O2, fr2⟩
                have L2 := L.keeps K2
                have Kh2 := K.trans K2
                have hsz2 := Ch.le K
                simp (disch := omega) only [wk, wt, wl, ↓reduceIte, Nat.reduceEqDiff, Nat.reduceAdd, Nat.zero_add, not_false_eq_true, not_true_eq_false, t0, t1, t5, t6, t21]
                have K3 := Keeps.new (Ch.wf Kh2) 61 [Value.int IntKind.i64 0, Value.int IntKind.i64 0, Value.int IntKind.i64 0, Value.int IntKind.i64 0, Value.slice none 0 0]
                have V3 := Var.new (e := 61) (Ch.wf Kh2) (cs := [Value.int IntKind.i64 0, Value.int IntKind.i64 0, Value.int IntKind.i64 0, Value.int IntKind.i64 0, Value.slice none 0 0])
                obtain ⟨h4, e4, V4, C4, z4⟩ := V3.store (P := prog) (t := 61) (v := .agg #[.int .i64 i, .int .i64 (i + 1), .int .i64 (unitsTo line (tabZ tab) i).2, .int .i64 (uwidth (line.getD i 0) (unitsTo line (tabZ tab) i).2 (tabZ tab)), tv2]) (i := 0) (Ch.wf K3) asz61 (by simp [Value.cells]) (by simp [Value.cells, one_int, O2.1.one])
                rw [e4]; clear e4
                simp only [Value.cells, over_all (xs := [Value.int IntKind.i64 0, Value.int IntKind.i64 0, Value.int IntKind.i64 0, Value.int IntKind.i64 0, Value.slice none 0 0]) (vs := [.int .i64 i, .int .i64 (i + 1), .int .i64 (unitsTo line (tabZ tab) i).2, .int .i64 (uwidth (line.getD i 0) (unitsTo line (tabZ tab) i).2 (tabZ tab)), tv2]) rfl] at V4
                have K24 : Keeps h2 h4 := K3.step C4 (fun b hb => by omega)
                have Kh4 := Kh2.trans K24
                have L4 := L2.keeps K24
                have O4 := (O2.keeps K24).base hsz2
                have wr := uwidth_range (r := line.getD i 0) (col := (unitsTo line (tabZ tab) i).2) (tabZ_range tab)
                obtain ⟨l5, h5, e5, L5, C5⟩ := UL.push (u := ⟨i, i + 1, (unitsTo line (tabZ tab) i).2, uwidth (line.getD i 0) (unitsTo line (tabZ tab) i).2 (tabZ tab), utext (line.getD i 0) (unitsTo line (tabZ tab) i).2 (tabZ tab)⟩) (Ch.wf Kh4) (Ch.le Kh4) L4 O4 (fun b k bl kl q1 q2 q3 q4 => by
                  have f0 := fr2 b q1
                  have f1 := (O2.1.blk_lt q1).1
                  rw [K24.at f1] at q2
                  have f2 := (K2.2.2.2.1 b k f0 q2).resolve_right fun ⟨_, _, e, _⟩ => e
                  have f3 := (L.own.1.blk_lt q3).1
                  have f4 := (L2.own.1.blk_lt q3).1
                  rw [K24.at f4, K2.at f3] at q4
                  have f5 := (Ch.wf K).2 bl kl q4
                  omega) (by omega)
                simp only [cellsU] at e5
                have vlt := V4.lt (Ch.wf Kh4)
                have V5 := Ch.var (Ch.wf Kh4) C5 V4 (fun hd => by
                  have := (L2.own.1.blk_lt hd.1).1
                  omega)
                simp (disch := omega) only [wk, wt, wl, ↓reduceIte, Nat.reduceEqDiff, Nat.reduceAdd, Nat.zero_add, not_false_eq_true, not_true_eq_false, t0, t1, t5, t6, t19, t20, t21, V4.loadA (P := prog) (t := 61) underlying61 rfl asz61, buildA5 (P := prog) (h := h4) underlying44 asz61 azero61 rfl (v0 := .int .i64 i) (v1 := .int .i64 (i + 1)) (v2 := .int .i64 (unitsTo line (tabZ tab) i).2) (v3 := .int .i64 (uwidth (line.getD i 0) (unitsTo line (tabZ tab) i).2 (tabZ tab))) (v4 := tv2) rfl rfl rfl rfl O2.1.one, e5, V5.load1 (P := prog) (t := 3) underlying3 rfl (i := 3), IntWalk.i64_in, intOf_int]
                have hs1 : unitsTo line (tabZ tab) (i + 1) = _ := ustep_push (us := (unitsTo line (tabZ tab) i).1) (col := (unitsTo line (tabZ tab) i).2) hpu
                refine ⟨⟨Kh4.step C5 (fun b hb => hb.2), i + 1, l5, _, by simp, by omega, ?_, rfl, L5, ?_⟩, by omega⟩
                · rw [hs1]
                · rw [hs1, List.map_append, hus]; rfl
            · have hpu : (unitsTo line (tabZ tab) i).1 = [] ∨ ¬ zeroB (line.getD i 0) = true ∨ ∃ u, (unitsTo line (tabZ tab) i).1.getLast? = some u ∧ joins line i u = false := .inr (.inr ⟨u, hlast, by unfold joins; simp only [Decidable.not_not.1 h9, not_true_eq_false, decide_false, Bool.false_and]⟩)
              simp only [wk, wt, wl, ↓reduceIte, Nat.reduceEqDiff, Nat.reduceAdd, Nat.zero_add, not_false_eq_true, not_true_eq_false, t0, t1, t5, t6, t19, t20, t21, h9]
              refine (unit_ok (hline i) (G.keeps K) (tabZ_range tab) ⟨UO.col0, by omega⟩ ⟨by omega, by omega⟩).use ?_
              rintro _ h2 ⟨tv2, rfl, K2, O2, fr2⟩
              have L2 := L.keeps K2
              have Kh2 := K.trans K2
              have hsz2 := Ch.le K
              simp (disch := omega) only [wk, wt, wl, ↓reduceIte, Nat.reduceEqDiff, Nat.reduceAdd, Nat.zero_add, not_false_eq_true, not_true_eq_false, t0, t1, t5, t6, t21]
              have K3 := Keeps.new (Ch.wf Kh2) 61 [Value.int IntKind.i64 0, Value.int IntKind.i64 0, Value.int IntKind.i64 0, Value.int IntKind.i64 0, Value.slice none 0 0]
              have V3 := Var.new (e := 61) (Ch.wf Kh2) (cs := [Value.int IntKind.i64 0, Value.int IntKind.i64 0, Value.int IntKind.i64 0, Value.int IntKind.i64 0, Value.slice none 0 0])
              obtain ⟨h4, e4, V4, C4, z4⟩ := V3.store (P := prog) (t := 61) (v := .agg #[.int .i64 i, .int .i64 (i + 1), .int .i64 (unitsTo line (tabZ tab) i).2, .int .i64 (uwidth (line.getD i 0) (unitsTo line (tabZ tab) i).2 (tabZ tab)), tv2]) (i := 0) (Ch.wf K3) asz61 (by simp [Value.cells]) (by simp [Value.cells, one_int, O2.1.one])
              rw [e4]; clear e4
              simp only [Value.cells, over_all (xs := [Value.int IntKind.i64 0, Value.int IntKind.i64 0, Value.int IntKind.i64 0, Value.int IntKind.i64 0, Value.slice none 0 0]) (vs := [.int .i64 i, .int .i64 (i + 1), .int .i64 (unitsTo line (tabZ tab) i).2, .int .i64 (uwidth (line.getD i 0) (unitsTo line (tabZ tab) i).2 (tabZ tab)), tv2]) rfl] at V4
              have K24 : Keeps h2 h4 := K3.step C4 (fun b hb => by omega)
              have Kh4 := Kh2.trans K24
              have L4 := L2.keeps K24
              have O4 := (O2.keeps K24).base hsz2
              have wr := uwidth_range (r := line.getD i 0) (col := (unitsTo line (tabZ tab) i).2) (tabZ_range tab)
              obtain ⟨l5, h5, e5, L5, C5⟩ := UL.push (u := ⟨i, i + 1, (unitsTo line (tabZ tab) i).2, uwidth (line.getD i 0) (unitsTo line (tabZ tab) i).2 (tabZ tab), utext (line.getD i 0) (unitsTo line (tabZ tab) i).2 (tabZ tab)⟩) (Ch.wf Kh4) (Ch.le Kh4) L4 O4 (fun b k bl kl q1 q2 q3 q4 => by
                have f0 := fr2 b q1
                have f1 := (O2.1.blk_lt q1).1
                rw [K24.at f1] at q2
                have f2 := (K2.2.2.2.1 b k f0 q2).resolve_right fun ⟨_, _, e, _⟩ => e
                have f3 := (L.own.1.blk_lt q3).1
                have f4 := (L2.own.1.blk_lt q3).1
                rw [K24.at f4, K2.at f3] at q4
                have f5 := (Ch.wf K).2 bl kl q4
                omega) (by omega)
              simp only [cellsU] at e5
              have vlt := V4.lt (Ch.wf Kh4)
              have V5 := Ch.var (Ch.wf Kh4) C5 V4 (fun hd => by
                have := (L2.own.1.blk_lt hd.1).1
                omega)
              simp (disch := omega) only [wk, wt, wl, ↓reduceIte, Nat.reduceEqDiff, Nat.reduceAdd, Nat.zero_add, not_false_eq_true, not_true_eq_false, t0, t1, t5, t6, t19, t20, t21, V4.loadA (P := prog) (t := 61) underlying61 rfl asz61, buildA5 (P := prog) (h := h4) underlying44 asz61 azero61 rfl (v0 := .int .i64 i) (v1 := .int .i64 (i + 1)) (v2 := .int .i64 (unitsTo line (tabZ tab) i).2) (v3 := .int .i64 (uwidth (line.getD i 0) (unitsTo line (tabZ tab) i).2 (tabZ tab))) (v4 := tv2) rfl rfl rfl rfl O2.1.one, e5, V5.load1 (P := prog) (t := 3) underlying3 rfl (i := 3), IntWalk.i64_in, intOf_int]
              have hs1 : unitsTo line (tabZ tab) (i + 1) = _ := ustep_push (us := (unitsTo line (tabZ tab) i).1) (col := (unitsTo line (tabZ tab) i).2) hpu
              refine ⟨⟨Kh4.step C5 (fun b hb => hb.2), i + 1, l5, _, by simp, by omega, ?_, rfl, L5, ?_⟩, by omega⟩
              · rw [hs1]
              · rw [hs1, List.map_append, hus]; rfl
          · have hz3 : zeroB (line.getD u.fr.toNat 0) = false := by
              cases e : zeroB (line.getD u.fr.toNat 0) with
              | false => rfl
              | true => exact absurd (widthZ_zero.2 e) hz2
            simp (disch := omega) only [wk, wt, wl, ↓reduceIte, Nat.reduceEqDiff, Nat.reduceAdd, Nat.zero_add, not_false_eq_true, not_true_eq_false, t0, t1, t5, t6, t19, t20, t21, IntWalk.i64_in, F0, RdI.index ha' underlying23 asz21 (q := .i64) (i := u.fr) (by omega) (by omega), RdI.at ha' underlying21 rfl (i := u.fr.toNat) (by omega)]
            refine gateO_dec (fun h9 => ?_) (fun h9 => ?_)
            · simp (disch := omega) only [wk, wt, wl, ↓reduceIte, Nat.reduceEqDiff, Nat.reduceAdd, Nat.zero_add, not_false_eq_true, not_true_eq_false, t0, t1, t5, t6, t19, t20, t21, h9, IntWalk.i64_in, F0, RdI.index ha' underlying23 asz21 (q := .i64) (i := u.fr) (by omega) (by omega), RdI.at ha' underlying21 rfl (i := u.fr.toNat) (by omega)]
              refine condK_dec (fun hm => ?_) (fun hm => ?_)
              · have hj : joins line i u = true := by unfold joins; simp only [hz3, h9, if_true, if_false, Bool.false_eq_true, not_false_eq_true, decide_true, Bool.true_and, decide_eq_true_eq]; omega
                obtain ⟨tv', m1, m2, m3, e1, e2, e3, L', KK⟩ := UL.mark (r := line.getD i 0) (t := (i : Int) + 1) (Ch.wf K) (Ch.le K) L (by omega)
                simp (disch := omega) only [wk, wt, wl, ↓reduceIte, Nat.reduceEqDiff, Nat.reduceAdd, Nat.zero_add, not_false_eq_true, not_true_eq_false, t0, t1, t5, t6, t19, t20, t21, IntWalk.i64_in, F4, e1, e2, e3, intOf_int]
                have hst : unitsTo line (tabZ tab) i = (pre.map (·.1) ++ [u], (unitsTo line (tabZ tab) i).2) := Prod.ext (by rw [← hus]; simp) rfl
                have hs1 : unitsTo line (tabZ tab) (i + 1) = _ := (congrArg (ustep line (tabZ tab) i (line.getD i 0)) hst).trans (ustep_join (widthZ_zero.1 hz) hj)
                refine ⟨⟨KK h rfl K, i + 1, l, _, by simp, by omega, ?_, rfl, L', ?_⟩, by omega⟩
                · rw [hs1]
                · rw [hs1]; simp
              · have hpu : (unitsTo line (tabZ tab) i).1 = [] ∨ ¬ zeroB (line.getD i 0) = true ∨ ∃ u, (unitsTo line (tabZ tab) i).1.getLast? = some u ∧ joins line i u = false := .inr (.inr ⟨u, hlast, by unfold joins; simp only [hz3, h9, if_true, if_false, Bool.false_eq_true, not_false_eq_true, decide_true, Bool.true_and, decide_eq_false_iff_not]; omega⟩)
                simp only [wk, wt, wl, ↓reduceIte, Nat.reduceEqDiff, Nat.reduceAdd, Nat.zero_add, not_false_eq_true, not_true_eq_false, t0, t1, t5, t6, t19, t20, t21]
                refine (unit_ok (hline i) (G.keeps K) (tabZ_range tab) ⟨UO.col0, by omega⟩ ⟨by omega, by omega⟩).use ?_
                rintro _ h2 ⟨tv2, rfl, K2, O2, fr2⟩
                have L2 := L.keeps K2
                have Kh2 := K.trans K2
                have hsz2 := Ch.le K
                simp (disch := omega) only [wk, wt, wl, ↓reduceIte, Nat.reduceEqDiff, Nat.reduceAdd, Nat.zero_add, not_false_eq_true, not_true_eq_false, t0, t1, t5, t6, t21]
                have K3 := Keeps.new (Ch.wf Kh2) 61 [Value.int IntKind.i64 0, Value.int IntKind.i64 0, Value.int IntKind.i64 0, Value.int IntKind.i64 0, Value.slice none 0 0]
                have V3 := Var.new (e := 61) (Ch.wf Kh2) (cs := [Value.int IntKind.i64 0, Value.int IntKind.i64 0, Value.int IntKind.i64 0, Value.int IntKind.i64 0, Value.slice none 0 0])
                obtain ⟨h4, e4, V4, C4, z4⟩ := V3.store (P := prog) (t := 61) (v := .agg #[.int .i64 i, .int .i64 (i + 1), .int .i64 (unitsTo line (tabZ tab) i).2, .int .i64 (uwidth (line.getD i 0) (unitsTo line (tabZ tab) i).2 (tabZ tab)), tv2]) (i := 0) (Ch.wf K3) asz61 (by simp [Value.cells]) (by simp [Value.cells, one_int, O2.1.one])
                rw [e4]; clear e4
                simp only [Value.cells, over_all (xs := [Value.int IntKind.i64 0, Value.int IntKind.i64 0, Value.int IntKind.i64 0, Value.int IntKind.i64 0, Value.slice none 0 0]) (vs := [.int .i64 i, .int .i64 (i + 1), .int .i64 (unitsTo line (tabZ tab) i).2, .int .i64 (uwidth (line.getD i 0) (unitsTo line (tabZ tab) i).2 (tabZ tab)), tv2]) rfl] at V4
                have K24 : Keeps h2 h4 := K3.step C4 (fun b hb => by omega)
                have Kh4 := Kh2.trans K24
                have L4 := L2.keeps K24
                have O4 := (O2.keeps K24).base hsz2
                have wr := uwidth_range (r := line.getD i 0) (col := (unitsTo line (tabZ tab) i).2) (tabZ_range tab)
                obtain ⟨l5, h5, e5, L5, C5⟩ := UL.push (u := ⟨i, i + 1, (unitsTo line (tabZ tab) i).2, uwidth (line.getD i 0) (unitsTo line (tabZ tab) i).2 (tabZ tab), utext (line.getD i 0) (unitsTo line (tabZ tab) i).2 (tabZ tab)⟩) (Ch.wf Kh4) (Ch.le Kh4) L4 O4 (fun b k bl kl q1 q2 q3 q4 => by
                  have f0 := fr2 b q1
                  have f1 := (O2.1.blk_lt q1).1
                  rw [K24.at f1] at q2
                  have f2 := (K2.2.2.2.1 b k f0 q2).resolve_right fun ⟨_, _, e, _⟩ => e
                  have f3 := (L.own.1.blk_lt q3).1
                  have f4 := (L2.own.1.blk_lt q3).1
                  rw [K24.at f4, K2.at f3] at q4
                  have f5 := (Ch.wf K).2 bl kl q4
                  omega) (by omega)
                simp only [cellsU] at e5
                have vlt := V4.lt (Ch.wf Kh4)
                have V5 := Ch.var (Ch.wf Kh4) C5 V4 (fun hd => by
                  have := (L2.own.1.blk_lt hd.1).1
                  omega)
                simp (disch := omega) only [wk, wt, wl, ↓reduceIte, Nat.reduceEqDiff, Nat.reduceAdd, Nat.zero_add, not_false_eq_true, not_true_eq_false, t0, t1, t5, t6, t19, t20, t21, V4.loadA (P := prog) (t := 61) underlying61 rfl asz61, buildA5 (P := prog) (h := h4) underlying44 asz61 azero61 rfl (v0 := .int .i64 i) (v1 := .int .i64 (i + 1)) (v2 := .int .i64 (unitsTo line (tabZ tab) i).2) (v3 := .int .i64 (uwidth (line.getD i 0) (unitsTo line (tabZ tab) i).2 (tabZ tab))) (v4 := tv2) rfl rfl rfl rfl O2.1.one, e5, V5.load1 (P := prog) (t := 3) underlying3 rfl (i := 3), IntWalk.i64_in, intOf_int]
                have hs1 : unitsTo line (tabZ tab) (i + 1) = _ := ustep_push (us := (unitsTo line (tabZ tab) i).1) (col := (unitsTo line (tabZ tab) i).2) hpu
                refine ⟨⟨Kh4.step C5 (fun b hb => hb.2), i + 1, l5, _, by simp, by omega, ?_, rfl, L5, ?_⟩, by omega⟩
                · rw [hs1]
                · rw [hs1, List.map_append, hus]; rfl
            · have hpu : (unitsTo line (tabZ tab) i).1 = [] ∨ ¬ zeroB (line.getD i 0) = true ∨ ∃ u, (unitsTo line (tabZ tab) i).1.getLast? = some u ∧ joins line i u = false := .inr (.inr ⟨u, hlast, by unfold joins; simp only [Decidable.not_not.1 h9, not_true_eq_false, decide_false, Bool.false_and]⟩)
              simp only [wk, wt, wl, ↓reduceIte, Nat.reduceEqDiff, Nat.reduceAdd, Nat.zero_add, not_false_eq_true, not_true_eq_false, t0, t1, t5, t6, t19, t20, t21, h9]
              refine (unit_ok (hline i) (G.keeps K) (tabZ_range tab) ⟨UO.col0, by omega⟩ ⟨by omega, by omega⟩).use ?_
              rintro _ h2 ⟨tv2, rfl, K2, O2, fr2⟩
              have L2 := L.keeps K2
              have Kh2 := K.trans K2
              have hsz2 := Ch.le K
              simp (disch := omega) only [wk, wt, wl, ↓reduceIte, Nat.reduceEqDiff, Nat.reduceAdd, Nat.zero_add, not_false_eq_true, not_true_eq_false, t0, t1, t5, t6, t21]
              have K3 := Keeps.new (Ch.wf Kh2) 61 [Value.int IntKind.i64 0, Value.int IntKind.i64 0, Value.int IntKind.i64 0, Value.int IntKind.i64 0, Value.slice none 0 0]
              have V3 := Var.new (e := 61) (Ch.wf Kh2) (cs := [Value.int IntKind.i64 0, Value.int IntKind.i64 0, Value.int IntKind.i64 0, Value.int IntKind.i64 0, Value.slice none 0 0])
              obtain ⟨h4, e4, V4, C4, z4⟩ := V3.store (P := prog) (t := 61) (v := .agg #[.int .i64 i, .int .i64 (i + 1), .int .i64 (unitsTo line (tabZ tab) i).2, .int .i64 (uwidth (line.getD i 0) (unitsTo line (tabZ tab) i).2 (tabZ tab)), tv2]) (i := 0) (Ch.wf K3) asz61 (by simp [Value.cells]) (by simp [Value.cells, one_int, O2.1.one])
              rw [e4]; clear e4
              simp only [Value.cells, over_all (xs := [Value.int IntKind.i64 0, Value.int IntKind.i64 0, Value.int IntKind.i64 0, Value.int IntKind.i64 0, Value.slice none 0 0]) (vs := [.int .i64 i, .int .i64 (i + 1), .int .i64 (unitsTo line (tabZ tab) i).2, .int .i64 (uwidth (line.getD i 0) (unitsTo line (tabZ tab) i).2 (tabZ tab)), tv2]) rfl] at V4
              have K24 : Keeps h2 h4 := K3.step C4 (fun b hb => by omega)
              have Kh4 := Kh2.trans K24
              have L4 := L2.keeps K24
              have O4 := (O2.keeps K24).base hsz2
              have wr := uwidth_range (r := line.getD i 0) (col := (unitsTo line (tabZ tab) i).2) (tabZ_range tab)
              obtain ⟨l5, h5, e5, L5, C5⟩ := UL.push (u := ⟨i, i + 1, (unitsTo line (tabZ tab) i).2, uwidth (line.getD i 0) (unitsTo line (tabZ tab) i).2 (tabZ tab), utext (line.getD i 0) (unitsTo line (tabZ tab) i).2 (tabZ tab)⟩) (Ch.wf Kh4) (Ch.le Kh4) L4 O4 (fun b k bl kl q1 q2 q3 q4 => by
                have f0 := fr2 b q1
                have f1 := (O2.1.blk_lt q1).1
                rw [K24.at f1] at q2
                have f2 := (K2.2.2.2.1 b k f0 q2).resolve_right fun ⟨_, _, e, _⟩ => e
                have f3 := (L.own.1.blk_lt q3).1
                have f4 := (L2.own.1.blk_lt q3).1
                rw [K24.at f4, K2.at f3] at q4
                have f5 := (Ch.wf K).2 bl kl q4
                omega) (by omega)
              simp only [cellsU] at e5
              have vlt := V4.lt (Ch.wf Kh4)
              have V5 := Ch.var (Ch.wf Kh4) C5 V4 (fun hd => by
                have := (L2.own.1.blk_lt hd.1).1
                omega)
              simp (disch := omega) only [wk, wt, wl, ↓reduceIte, Nat.reduceEqDiff, Nat.reduceAdd, Nat.zero_add, not_false_eq_true, not_true_eq_false, t0, t1, t5, t6, t19, t20, t21, V4.loadA (P := prog) (t := 61) underlying61 rfl asz61, buildA5 (P := prog) (h := h4) underlying44 asz61 azero61 rfl (v0 := .int .i64 i) (v1 := .int .i64 (i + 1)) (v2 := .int .i64 (unitsTo line (tabZ tab) i).2) (v3 := .int .i64 (uwidth (line.getD i 0) (unitsTo line (tabZ tab) i).2 (tabZ tab))) (v4 := tv2) rfl rfl rfl rfl O2.1.one, e5, V5.load1 (P := prog) (t := 3) underlying3 rfl (i := 3), IntWalk.i64_in, intOf_int]
              have hs1 : unitsTo line (tabZ tab) (i + 1) = _ := ustep_push (us := (unitsTo line (tabZ tab) i).1) (col := (unitsTo line (tabZ tab) i).2) hpu
              refine ⟨⟨Kh4.step C5 (fun b hb => hb.2), i + 1, l5, _, by simp, by omega, ?_, rfl, L5, ?_⟩, by omega⟩
              · rw [hs1]
              · rw [hs1, List.map_append, hus]; rfl
        · have hpu : (unitsTo line (tabZ tab) i).1 = [] ∨ ¬ zeroB (line.getD i 0) = true ∨ ∃ u, (unitsTo line (tabZ tab) i).1.getLast? = some u ∧ joins line i u = false := .inr (.inl fun e => hz (widthZ_zero.2 e))
          simp only [wk, wt, wl, ↓reduceIte, Nat.reduceEqDiff, Nat.reduceAdd, Nat.zero_add, not_false_eq_true, not_true_eq_false, t0, t1, t5, t6, t19, t20, t21, hn]
          refine (unit_ok (hline i) (G.keeps K) (tabZ_range tab) ⟨UO.col0, by omega⟩ ⟨by omega, by omega⟩).use ?_
          rintro _ h2 ⟨tv2, rfl, K2, O2, fr2⟩
          have L2 := L.keeps K2
          have Kh2 := K.trans K2
          have hsz2 := Ch.le K
          simp (disch := omega) only [wk, wt, wl, ↓reduceIte, Nat.reduceEqDiff, Nat.reduceAdd, Nat.zero_add, not_false_eq_true, not_true_eq_false, t0, t1, t5, t6, t21]
          have K3 := Keeps.new (Ch.wf Kh2) 61 [Value.int IntKind.i64 0, Value.int IntKind.i64 0, Value.int IntKind.i64 0, Value.int IntKind.i64 0, Value.slice none 0 0]
          have V3 := Var.new (e := 61) (Ch.wf Kh2) (cs := [Value.int IntKind.i64 0, Value.int IntKind.i64 0, Value.int IntKind.i64 0, Value.int IntKind.i64 0, Value.slice none 0 0])
          obtain ⟨h4, e4, V4, C4, z4⟩ := V3.store (P := prog) (t := 61) (v := .agg #[.int .i64 i, .int .i64 (i + 1), .int .i64 (unitsTo line (tabZ tab) i).2, .int .i64 (uwidth (line.getD i 0) (unitsTo line (tabZ tab) i).2 (tabZ tab)), tv2]) (i := 0) (Ch.wf K3) asz61 (by simp [Value.cells]) (by simp [Value.cells, one_int, O2.1.one])
          rw [e4]; clear e4
          simp only [Value.cells, over_all (xs := [Value.int IntKind.i64 0, Value.int IntKind.i64 0, Value.int IntKind.i64 0, Value.int IntKind.i64 0, Value.slice none 0 0]) (vs := [.int .i64 i, .int .i64 (i + 1), .int .i64 (unitsTo line (tabZ tab) i).2, .int .i64 (uwidth (line.getD i 0) (unitsTo line (tabZ tab) i).2 (tabZ tab)), tv2]) rfl] at V4
          have K24 : Keeps h2 h4 := K3.step C4 (fun b hb => by omega)
          have Kh4 := Kh2.trans K24
          have L4 := L2.keeps K24
          have O4 := (O2.keeps K24).base hsz2
          have wr := uwidth_range (r := line.getD i 0) (col := (unitsTo line (tabZ tab) i).2) (tabZ_range tab)
          obtain ⟨l5, h5, e5, L5, C5⟩ := UL.push (u := ⟨i, i + 1, (unitsTo line (tabZ tab) i).2, uwidth (line.getD i 0) (unitsTo line (tabZ tab) i).2 (tabZ tab), utext (line.getD i 0) (unitsTo line (tabZ tab) i).2 (tabZ tab)⟩) (Ch.wf Kh4) (Ch.le Kh4) L4 O4 (fun b k bl kl q1 q2 q3 q4 => by
            have f0 := fr2 b q1
            have f1 := (O2.1.blk_lt q1).1
            rw [K24.at f1] at q2
            have f2 := (K2.2.2.2.1 b k f0 q2).resolve_right fun ⟨_, _, e, _⟩ => e
            have f3 := (L.own.1.blk_lt q3).1
            have f4 := (L2.own.1.blk_lt q3).1
            rw [K24.at f4, K2.at f3] at q4
            have f5 := (Ch.wf K).2 bl kl q4
            omega) (by omega)
          simp only [cellsU] at e5
          have vlt := V4.lt (Ch.wf Kh4)
          have V5 := Ch.var (Ch.wf Kh4) C5 V4 (fun hd => by
            have := (L2.own.1.blk_lt hd.1).1
            omega)
          simp (disch := omega) only [wk, wt, wl, ↓reduceIte, Nat.reduceEqDiff, Nat.reduceAdd, Nat.zero_add, not_false_eq_true, not_true_eq_false, t0, t1, t5, t6, t19, t20, t21, V4.loadA (P := prog) (t := 61) underlying61 rfl asz61, buildA5 (P := prog) (h := h4) underlying44 asz61 azero61 rfl (v0 := .int .i64 i) (v1 := .int .i64 (i + 1)) (v2 := .int .i64 (unitsTo line (tabZ tab) i).2) (v3 := .int .i64 (uwidth (line.getD i 0) (unitsTo line (tabZ tab) i).2 (tabZ tab))) (v4 := tv2) rfl rfl rfl rfl O2.1.one, e5, V5.load1 (P := prog) (t := 3) underlying3 rfl (i := 3), IntWalk.i64_in, intOf_int]
          have hs1 : unitsTo line (tabZ tab) (i + 1) = _ := ustep_push (us := (unitsTo line (tabZ tab) i).1) (col := (unitsTo line (tabZ tab) i).2) hpu
          refine ⟨⟨Kh4.step C5 (fun b hb => hb.2), i + 1, l5, _, by simp, by omega, ?_, rfl, L5, ?_⟩, by omega⟩
          · rw [hs1]
          · rw [hs1, List.map_append, hus]; rfl
      · have hpu : (unitsTo line (tabZ tab) i).1 = [] ∨ ¬ zeroB (line.getD i 0) = true ∨ ∃ u, (unitsTo line (tabZ tab) i).1.getLast? = some u ∧ joins line i u = false := .inl (List.eq_nil_of_length_eq_zero (by omega))
        simp only [wk, wt, wl, ↓reduceIte, Nat.reduceEqDiff, Nat.reduceAdd, Nat.zero_add, not_false_eq_true, not_true_eq_false, t0, t1, t5, t6, t19, t20, t21, hn]
        refine (unit_ok (hline i) (G.keeps K) (tabZ_range tab) ⟨UO.col0, by omega⟩ ⟨by omega, by omega⟩).use ?_
        rintro _ h2 ⟨tv2, rfl, K2, O2, fr2⟩
        have L2 := L.keeps K2
        have Kh2 := K.trans K2
        have hsz2 := Ch.le K
        simp (disch := omega) only [wk, wt, wl, ↓reduceIte, Nat.reduceEqDiff, Nat.reduceAdd, Nat.zero_add, not_false_eq_true, not_true_eq_false, t0, t1, t5, t6, t21]
        have K3 := Keeps.new (Ch.wf Kh2) 61 [Value.int IntKind.i64 0, Value.int IntKind.i64 0, Value.int IntKind.i64 0, Value.int IntKind.i64 0, Value.slice none 0 0]
        have V3 := Var.new (e := 61) (Ch.wf Kh2) (cs := [Value.int IntKind.i64 0, Value.int IntKind.i64 0, Value.int IntKind.i64 0, Value.int IntKind.i64 0, Value.slice none 0 0])
        obtain ⟨h4, e4, V4, C4, z4⟩ := V3.store (P := prog) (t := 61) (v := .agg #[.int .i64 i, .int .i64 (i + 1), .int .i64 (unitsTo line (tabZ tab) i).2, .int .i64 (uwidth (line.getD i 0) (unitsTo line (tabZ tab) i).2 (tabZ tab)), tv2]) (i := 0) (Ch.wf K3) asz61 (by simp [Value.cells]) (by simp [Value.cells, one_int, O2.1.one])
        rw [e4]; clear e4
        simp only [Value.cells, over_all (xs := [Value.int IntKind.i64 0, Value.int IntKind.i64 0, Value.int IntKind.i64 0, Value.int IntKind.i64 0, Value.slice none 0 0]) (vs := [.int .i64 i, .int .i64 (i + 1), .int .i64 (unitsTo line (tabZ tab) i).2, .int .i64 (uwidth (line.getD i 0) (unitsTo line (tabZ tab) i).2 (tabZ tab)), tv2]) rfl] at V4
        have K24 : Keeps h2 h4 := K3.step C4 (fun b hb => by omega)
        have Kh4 := Kh2.trans K24
        have L4 := L2.keeps K24
        have O4 := (O2.keeps K24).base hsz2
        have wr := uwidth_range (r := line.getD i 0) (col := (unitsTo line (tabZ tab) i).2) (tabZ_range tab)
        obtain ⟨l5, h5, e5, L5, C5⟩ := UL.push (u := ⟨i, i + 1, (unitsTo line (tabZ tab) i).2, uwidth (line.getD i 0) (unitsTo line (tabZ tab) i).2 (tabZ tab), utext (line.getD i 0) (unitsTo line (tabZ tab) i).2 (tabZ tab)⟩) (Ch.wf Kh4) (Ch.le Kh4) L4 O4 (fun b k bl kl q1 q2 q3 q4 => by
          have f0 := fr2 b q1
          have f1 := (O2.1.blk_lt q1).1
          rw [K24.at f1] at q2
          have f2 := (K2.2.2.2.1 b k f0 q2).resolve_right fun ⟨_, _, e, _⟩ => e
          have f3 := (L.own.1.blk_lt q3).1
          have f4 := (L2.own.1.blk_lt q3).1
          rw [K24.at f4, K2.at f3] at q4
          have f5 := (Ch.wf K).2 bl kl q4
          omega) (by omega)
        simp only [cellsU] at e5
        have vlt := V4.lt (Ch.wf Kh4)
        have V5 := Ch.var (Ch.wf Kh4) C5 V4 (fun hd => by
          have := (L2.own.1.blk_lt hd.1).1
          omega)
        simp (disch := omega) only [wk, wt, wl, ↓reduceIte, Nat.reduceEqDiff, Nat.reduceAdd, Nat.zero_add, not_false_eq_true, not_true_eq_false, t0, t1, t5, t6, t19, t20, t21, V4.loadA (P := prog) (t := 61) underlying61 rfl asz61, buildA5 (P := prog) (h := h4) underlying44 asz61 azero61 rfl (v0 := .int .i64 i) (v1 := .int .i64 (i + 1)) (v2 := .int .i64 (unitsTo line (tabZ tab) i).2) (v3 := .int .i64 (uwidth (line.getD i 0) (unitsTo line (tabZ tab) i).2 (tabZ tab))) (v4 := tv2) rfl rfl rfl rfl O2.1.one, e5, V5.load1 (P := prog) (t := 3) underlying3 rfl (i := 3), IntWalk.i64_in, intOf_int]
        have hs1 : unitsTo line (tabZ tab) (i + 1) = _ := ustep_push (us := (unitsTo line (tabZ tab) i).1) (col := (unitsTo line (tabZ tab) i).2) hpu
        refine ⟨⟨Kh4.step C5 (fun b hb => hb.2), i + 1, l5, _, by simp, by omega, ?_, rfl, L5, ?_⟩, by omega⟩
        · rw [hs1]
        · rw [hs1, List.map_append, hus]; rfl
    · simp only [wk, wt, wl, ↓reduceIte, Nat.reduceEqDiff, Nat.reduceAdd, Nat.zero_add, not_false_eq_true, not_true_eq_false, t0, t1, t5, t6, t19, t20, t21]
      have hil : i = line.length := by omega
      exact ⟨uv, by rw [hus, hil]; rfl, L, K⟩
theorem units_ok {a : Value} {line : List Int} {tab : Int} {h : Heap} (ha : RdI prog h .i32 a line) (G : Gl h) (hline : ∀ j, isR (line.getD j 0)) (hlen : line.length ≤ 10000) :
    ACalls prog 70 #[a, .int .i64 tab] h (fun v h' => ∃ uv, uv.map (·.1) = unitsL line tab ∧ UR h' v uv ∧ Keeps h h') :=
  (unitsOwn_ok ha G hline hlen).mono fun v h' ⟨uv, h1, h2, h3⟩ => ⟨uv, h1, h2.ur, h3⟩
theorem UL.fresh {B : Nat} {h : Heap} {v : Value} {uv : List (U × Value)} (L : UL B h v uv) {y : Nat} (hy : blkOf v = some y) : B ≤ y := by
  rcases L.frm with ⟨_, rfl⟩ | ⟨a, rfl⟩
  · cases hy
  · obtain ⟨b, o, k, rfl, hB, _⟩ := Own.third L.own
    cases hy; exact hB
end Go.Proofs.YtcgajolmjjeibaaDoor.Am
end
section
/- Where a rune of a line is shown: contracts of cell.Col, cell.At and cell.Columns, by walks. -/
set_option linter.unusedSimpArgs false
set_option linter.unusedVariables false
set_option maxHeartbeats 2000000
set_option maxRecDepth 20000
namespace Go.Proofs.YtcgajolmjjeibaaDoor.Am
open Go Go.RowKit Go.Proofs.Tryd
/-- The first unit that ends behind rune i. -/
def colOf (us : List U) (i : Int) (e : Int) : Int × Int :=
  match us with
  | [] => (e, 1)
  | u :: us => if i < u.to then (u.col, u.wd) else colOf us i (u.col + u.wd)
def atOf (us : List U) (c : Int) (n : Int) : Int :=
  match us with
  | [] => n
  | u :: us => if c < u.col + u.wd then u.fr else atOf us c n
theorem UR.at {h : Heap} {l : Value} {uv : List (U × Value)} (H : UR h l uv) {i : Nat} (hi : i < uv.length) : aload prog h 61 (eltA l 5 i) = some (.agg #[.int .i64 (uv[i]).1.fr, .int .i64 (uv[i]).1.to, .int .i64 (uv[i]).1.col, .int .i64 (uv[i]).1.wd, (uv[i]).2]) := by
  obtain ⟨h1, h2⟩ := H.rd
  have hc : ((uv.flatMap cellsU).drop (i * 5)).take 5 = cellsU uv[i] := by
    refine List.ext_getElem? fun j => ?_
    rw [List.getElem?_take]
    split
    · rename_i hj
      rw [List.getElem?_drop, cellsU_at (x := uv[i]) (by simp [hi]) hj]
    · rename_i hj
      rw [List.getElem?_eq_none (by simp [cellsU]; omega)]
  rcases h2 with ⟨e, _⟩ | ⟨b, o, c, k, rfl, hlt, hk, hlv, ha, hol, hcc⟩
  · omega
  · have hle : o + i * 5 + 5 ≤ k.cells.length := by omega
    have hd : ((k.cells.drop (o + i * 5)).take 5) = cellsU uv[i] := by
      rw [← hc, ← hcc]
      refine List.ext_getElem? fun j => ?_
      simp only [List.getElem?_take, List.getElem?_drop]
      split
      · rw [if_pos (by omega)]; congr 1; omega
      · rfl
    simp only [aload, eltA, hk, hlv, if_true, underlying61, isAggD, asz61, hle, hd]
    rfl
theorem units_get {uv : List (U × Value)} {us : List U} (h : uv.map (·.1) = us) {i : Nat} (hi : i < uv.length) : us[i]? = some (uv[i]).1 := by
  rw [← h]; simp [hi]
theorem unitsL_ok {line : List Int} {tab : Int} : UOk line.length (unitsL line tab) (unitsTo line (tabZ tab) line.length).2 := unitsTo_ok (tabZ_range tab) line.length
theorem unit_bounds {line : List Int} {tab : Int} (hlen : line.length ≤ 10000) {u : U} (hu : u ∈ unitsL line tab) : 0 ≤ u.fr ∧ u.fr < u.to ∧ u.to ≤ line.length ∧ 0 ≤ u.col ∧ 1 ≤ u.wd ∧ u.wd ≤ 64 ∧ u.col + u.wd ≤ 640000 := by
  have h1 := (unitsL_ok (line := line) (tab := tab)).each u hu
  have h2 := (unitsL_ok (line := line) (tab := tab)).col1
  omega
theorem drop_at {us : List U} {j : Nat} {u : U} (h : us[j]? = some u) : us.drop j = u :: us.drop (j + 1) := by
  obtain ⟨hj, e⟩ := List.getElem?_eq_some_iff.1 h
  rw [List.drop_eq_getElem_cons hj, e]
end Go.Proofs.YtcgajolmjjeibaaDoor.Am
end
section
/- Two equal rows of units are told equal: the contract of the document's Same, by a walk. -/
set_option linter.unusedSimpArgs false
set_option linter.unusedVariables false
set_option maxHeartbeats 4000000
set_option maxRecDepth 20000
namespace Go.Proofs.YtcgajolmjjeibaaDoor.Am
open Go Go.RowKit Go.Proofs.Tryd
theorem UR.field {h : Heap} {l : Value} {uv : List (U × Value)} (H : UR h l uv) {i : Nat} {u : U} {tv : Value} (hx : uv[i]? = some (u, tv)) :
    aload prog h 3 ⟨(eltA l 5 i).block, (eltA l 5 i).off + 0, none⟩ = some (.int .i64 u.fr) ∧ aload prog h 3 ⟨(eltA l 5 i).block, (eltA l 5 i).off + 1, none⟩ = some (.int .i64 u.to) ∧
    aload prog h 3 ⟨(eltA l 5 i).block, (eltA l 5 i).off + 2, none⟩ = some (.int .i64 u.col) ∧ aload prog h 3 ⟨(eltA l 5 i).block, (eltA l 5 i).off + 3, none⟩ = some (.int .i64 u.wd) ∧
    aload prog h 23 ⟨(eltA l 5 i).block, (eltA l 5 i).off + 4, none⟩ = some tv := by
  have hi := (List.getElem?_eq_some_iff.1 hx).1
  exact ⟨(H.rd.at underlying3 rfl hi (by omega)).trans (cellsU_at hx (by omega)), (H.rd.at underlying3 rfl hi (by omega)).trans (cellsU_at hx (by omega)), (H.rd.at underlying3 rfl hi (by omega)).trans (cellsU_at hx (by omega)),
    (H.rd.at underlying3 rfl hi (by omega)).trans (cellsU_at hx (by omega)), (H.rd.at underlying23 rfl hi (by omega)).trans (cellsU_at hx (by omega))⟩
end Go.Proofs.YtcgajolmjjeibaaDoor.Am
end
section
/- The last unit of a row is set to end elsewhere; its text grows by one rune: what becomes of memory. -/
set_option linter.unusedSimpArgs false
set_option linter.unusedVariables false
set_option maxHeartbeats 1000000
set_option maxRecDepth 20000
namespace Go.Proofs.YtcgajolmjjeibaaDoor.Am
open Go Go.RowKit Go.Proofs.Tryd
theorem UL.parts {B : Nat} {h : Heap} {l tv : Value} {pre : List (U × Value)} {u : U} (L : UL B h l (pre ++ [(u, tv)])) :
    ∃ a kl, l = .slice (some a) (pre.length + 1) 0 ∧ a.block < h.size ∧ h.get a.block = some kl ∧ B ≤ a.block ∧ (∀ x, x ∈ pre ++ [(u, tv)] → NF h a.block x.2) ∧ Own prog B h 5 (.slice (some a) (pre.length + 1) 0) (pre.length + 1) ((pre ++ [(u, tv)]).flatMap cellsU) := by
  have hf : ∃ a, l = .slice (some a) (pre.length + 1) 0 := by
    rcases L.frm with ⟨e, _⟩ | ⟨a, e⟩
    · simp at e
    · exact ⟨a, by rw [e]; simp⟩
  obtain ⟨a, rfl⟩ := hf
  obtain ⟨hbl, kl, hkl, _⟩ := L.own.1.blk_lt (b := a.block) rfl
  have O : Own prog B h 5 (.slice (some a) (pre.length + 1) 0) (pre.length + 1) ((pre ++ [(u, tv)]).flatMap cellsU) := by simpa using L.own
  have hBa : B ≤ a.block := by
    obtain ⟨b, o, k, e, hb, _⟩ := O.third
    rw [e]; exact hb
  exact ⟨a, kl, rfl, hbl, hkl, hBa, fun x hx b k kl h1 h2 h3 => L.fam x hx b k a.block kl h1 h2 rfl h3, O⟩
theorem famB {B : Nat} {h0 hh : Heap} {bl : Nat} (hz : h0.size = B) (KK : Keeps h0 hh) (hlt : bl < hh.size) (hBa : B ≤ bl) : ∀ b, FamOf hh bl b → h0.size ≤ b := fun b ⟨k, kb, q1, q2, q3⟩ => by
  have f1 := (KK.2.2.2.1 bl kb (by omega) q2).resolve_right fun ⟨_, _, e, _⟩ => e
  have f2 := KK.1.2 b k q1
  omega
theorem UL.setTo {B : Nat} {h : Heap} {l tv : Value} {pre : List (U × Value)} {u : U} {t : Int} (H : Wf h) (L : UL B h l (pre ++ [(u, tv)])) :
    ∃ h2, storeV prog h 3 (.pointer (some ⟨(eltA l 5 pre.length).block, (eltA l 5 pre.length).off + 1, none⟩)) (.int .i64 t) = some (undef, h2) ∧
      UL B h2 l (pre ++ [({ u with to := t }, tv)]) ∧ ∀ h0, h0.size = B → Keeps h0 h → Keeps h0 h2 := by
  have Otv := L.last pre (u, tv) rfl
  obtain ⟨a, kl, rfl, hbl, hkl, hBa, N, O⟩ := L.parts
  obtain ⟨h2, e2, OL2, C2, z2, _⟩ := Own.store (P := prog) H O (t := 3) (w := .int .i64 t) (i := pre.length) (j := 1) asz3 rfl (by omega) (by omega)
  rw [cellsU_set (by omega), show (cellsU (u, tv)).set 1 (.int .i64 t) = cellsU ({ u with to := t }, tv) from rfl, show pre.flatMap cellsU ++ cellsU ({ u with to := t }, tv) = (pre ++ [({ u with to := t }, tv)]).flatMap cellsU by simp] at OL2
  have T2 : ∀ x, x ∈ pre ++ [(u, tv)] → RdI prog h2 .i32 x.2 x.1.tx := fun x hx => Ch.rd C2 (L.txt x hx) (N x hx).out
  have N2 : ∀ x, x ∈ pre ++ [(u, tv)] → NF h2 a.block x.2 := fun x hx => (N x hx).ch C2 (fun b hb => ((L.txt x hx).blk_lt hb).1) hbl
  refine ⟨h2, e2, ⟨by simpa using OL2, fun x hx => ?_, fun x hx b k bl kb q1 q2 q3 q4 => ?_, fun p x e => ?_, .inr ⟨a, by simp⟩⟩, fun h0 hz K => K.step C2 (famB hz K hbl hBa)⟩
  · rcases List.mem_append.1 hx with hx | hx
    · exact T2 x (by simp [hx])
    · simp only [List.mem_singleton] at hx; subst hx; exact T2 (u, tv) (by simp)
  · simp only [blkOf, Option.some.injEq] at q3; subst q3
    rcases List.mem_append.1 hx with hx | hx
    · exact N2 x (by simp [hx]) b k kb q1 q2 q4
    · simp only [List.mem_singleton] at hx; subst hx; exact N2 (u, tv) (by simp) b k kb q1 q2 q4
  · have hx : x = ({ u with to := t }, tv) := by
      have := congrArg List.getLast? e
      simp at this; exact this.symm
    subst hx; exact Ch.own C2 Otv (N (u, tv) (by simp)).out
theorem UL.addText {B : Nat} {h : Heap} {l tv : Value} {pre : List (U × Value)} {u : U} {r : Int} (H : Wf h) (hB : B ≤ h.size) (L : UL B h l (pre ++ [(u, tv)])) (hbig : u.tx.length ≤ 1000000) :
    ∃ tv' h1 h3, aappend prog (h.new 21 [.int .i32 r]) 23 23 tv (.slice (some ⟨h.size, 0, none⟩) 1 2) = some (tv', h1) ∧
      storeV prog h1 23 (.pointer (some ⟨(eltA l 5 pre.length).block, (eltA l 5 pre.length).off + 4, none⟩)) tv' = some (undef, h3) ∧
      UL B h3 l (pre ++ [({ u with tx := u.tx ++ [r] }, tv')]) ∧ ∀ h0, h0.size = B → Keeps h0 h → Keeps h0 h3 := by
  have Otv := L.last pre (u, tv) rfl
  obtain ⟨tv', h1, e1, O1, C1, R1, ev, k3, g1, g2⟩ := Otv.append1 (P := prog) H hB underlying23 elem21 fits21 (by decide) (by decide) (xs := [.int .i32 r]) rfl (by simp only; omega)
  obtain ⟨a, kl, rfl, hbl, hkl, hBa, Nx, OL⟩ := L.parts
  have Ntv := Nx (u, tv) (by simp)
  have OL1 := Ch.own C1 OL fun b hb hd => by
    simp only [blkOf, Option.some.injEq] at hb; subst hb
    exact Ntv a.block kl kl hd.1 hkl hkl rfl
  have hbl1 : a.block < h1.size := Nat.lt_of_lt_of_le hbl C1.le
  have N1 : ∀ x, x ∈ pre → NF h1 a.block x.2 := fun x hx => (Nx x (by simp [hx])).ch C1 (fun b hb => ((L.txt x (by simp [hx])).blk_lt hb).1) hbl
  have T1 : ∀ x, x ∈ pre → RdI prog h1 .i32 x.2 x.1.tx := fun x hx => Rd.reads (L.txt x (by simp [hx])) C1.le R1
  have Nv1 : NF h1 a.block tv' := fun b k kb q1 q2 q3 => by
    rw [ev] at q1; simp only [blkOf, Option.some.injEq] at q1; subst q1
    rw [g1] at q2; cases q2
    obtain ⟨k0, p1, p2⟩ := C1.2.2.2.2.1 a.block kb hbl q3
    rw [hkl] at p1; cases p1
    have := H.2 _ _ hkl
    rcases g2 with g2 | ⟨y, k', s1, s2, s3, s4⟩
    · omega
    · rw [s4, p2]; exact Ntv y k' kl s1 s3 hkl
  obtain ⟨h3, e3, OL3, C3, z3, _⟩ := Own.store (P := prog) (C1.wf) OL1 (t := 23) (w := tv') (i := pre.length) (j := 4) asz23 O1.1.one (by omega) (by omega)
  have O3 := Ch.own C3 O1 Nv1.out
  have Nv3 := Nv1.ch C3 (fun b hb => (O1.1.blk_lt hb).1) hbl1
  have N3 : ∀ x, x ∈ pre → NF h3 a.block x.2 := fun x hx => (N1 x hx).ch C3 (fun b hb => ((T1 x hx).blk_lt hb).1) hbl1
  have T3 : ∀ x, x ∈ pre → RdI prog h3 .i32 x.2 x.1.tx := fun x hx => Ch.rd C3 (T1 x hx) (N1 x hx).out
  rw [cellsU_set (by omega), show (cellsU (u, tv)).set 4 tv' = cellsU ({ u with tx := u.tx ++ [r] }, tv') from rfl, show pre.flatMap cellsU ++ cellsU ({ u with tx := u.tx ++ [r] }, tv') = (pre ++ [({ u with tx := u.tx ++ [r] }, tv')]).flatMap cellsU by simp] at OL3
  have O3' : Own prog B h3 1 tv' (u.tx ++ [r]).length (vI (u.tx ++ [r])) := by
    simpa [vI] using O3
  refine ⟨tv', h1, h3, e1, e3, ⟨by simpa using OL3, fun x hx => ?_, fun x hx b k bl kb q1 q2 q3 q4 => ?_, fun p x e => ?_, .inr ⟨a, by simp⟩⟩, fun h0 hz K => ?_⟩
  · rcases List.mem_append.1 hx with hx | hx
    · exact T3 x hx
    · simp only [List.mem_singleton] at hx; subst hx; exact O3'.1
  · simp only [blkOf, Option.some.injEq] at q3; subst q3
    rcases List.mem_append.1 hx with hx | hx
    · exact N3 x hx b k kb q1 q2 q4
    · simp only [List.mem_singleton] at hx; subst hx; exact Nv3 b k kb q1 q2 q4
  · have hx : x = ({ u with tx := u.tx ++ [r] }, tv') := by
      have := congrArg List.getLast? e
      simp at this; exact this.symm
    subst hx; exact O3'
  · have K1 : Keeps h0 h1 := K.step C1 fun b hb => by rw [hz]; exact hb.2
    exact K1.step C3 (famB hz K1 hbl1 hBa)
end Go.Proofs.YtcgajolmjjeibaaDoor.Am
end
section
/- The examples of the second chapter: the contract of awake, by a walk. -/
set_option linter.unusedSimpArgs false
set_option linter.unusedVariables false
set_option maxHeartbeats 4000000
set_option maxRecDepth 20000
namespace Go.Proofs.YtcgajolmjjeibaaDoor.Am
open Go Go.RowKit Go.Proofs.Tryd
theorem isR_getD {xs : List Int} (h : ∀ x, x ∈ xs → isR x) (j : Nat) : isR (xs.getD j 0) := by
  rw [List.getD_eq_getElem?_getD]
  cases e : xs[j]? with
  | none => simp [isR]
  | some x => exact h x (List.mem_of_getElem? e)
theorem unitsA : unitsL [97, 9, 98] 8 = [⟨0, 1, 0, 1, [97]⟩, ⟨1, 2, 1, 7, [32, 32, 32, 32, 32, 32, 32]⟩, ⟨2, 3, 8, 1, [98]⟩] := by kernel_rfl
theorem unitsB : unitsL [101, 769] 8 = [⟨0, 2, 0, 1, [101, 769]⟩] := by kernel_rfl
theorem colA : colOf (unitsL [97, 9] 8) 2 0 = (8, 1) := by kernel_rfl
theorem atA : atOf (unitsL [97, 9, 98] 8) 3 3 = 1 := by kernel_rfl
theorem widthA : widthZ 20013 = 2 := by kernel_rfl
theorem showA : showL 1 = [94, 65] := by kernel_rfl
theorem list1 {α : Type} : ∀ {l : List α}, l.length = 1 → ∃ a, l = [a]
  | [a], _ => ⟨a, rfl⟩
theorem list3 {α : Type} : ∀ {l : List α}, l.length = 3 → ∃ a b c, l = [a, b, c]
  | [a, b, c], _ => ⟨a, b, c, rfl⟩
theorem rdNew {h : Heap} (H : Wf h) {c : Nat} (xs : List Int) : RdI prog (h.new 21 (vI xs)) .i32 (.slice (some ⟨h.size, 0, none⟩) xs.length c) xs := Rd.new H asz21 (by simp [vI])
end Go.Proofs.YtcgajolmjjeibaaDoor.Am
end
section
/- The document's units of any line: the contract of its Units, by a walk. -/
set_option linter.unusedSimpArgs false
set_option linter.unusedVariables false
set_option maxHeartbeats 4000000
set_option maxRecDepth 20000
namespace Go.Proofs.YtcgajolmjjeibaaDoor.Am
open Go Go.RowKit Go.Proofs.Tryd
theorem build_unit5 {h : Heap} {x y z w : Int} {a : Option Addr} {n c : Nat} : abuild prog 61 #[(0, .int .i64 x), (1, .int .i64 y), (2, .int .i64 z), (3, .int .i64 w), (4, .slice a n c)] = some (.agg #[.int .i64 x, .int .i64 y, .int .i64 z, .int .i64 w, .slice a n c]) := by
  simp [abuild, wt, aplaces, Instr.fill, Value.cells]
theorem refUnits_ok {a : Value} {line : List Int} {tab : Int} {h : Heap} (ha : RdI prog h .i32 a line) (hline : ∀ j, isR (line.getD j 0)) (hlen : line.length ≤ 10000) :
    ACalls prog 16 #[a, .int .i64 tab] h (fun v h' => ∃ uv, uv.map (·.1) = unitsL line tab ∧ UR h' v uv ∧ Keeps h h') := by
  refine acalls_of_W' func16 rfl (by kernel_rfl) (by kernel_rfl) (by simp [ntmps16]) ?_
  intro H
  simp only [wk, wt, wl, ↓reduceIte, Nat.reduceEqDiff, Nat.reduceAdd, Nat.zero_add, not_false_eq_true, not_true_eq_false]
  refine tab_ok.use_pure ?_
  simp only [wk, wt, wl, ↓reduceIte, Nat.reduceEqDiff, Nat.reduceAdd, Nat.zero_add, not_false_eq_true, not_true_eq_false]
  refine W_loop (fun tm h' => Keeps h h' ∧ tm 0 = a ∧ tm 1 = .int .i64 (tabZ tab) ∧ ∃ (i : Nat) (l : Value) (uv : List (U × Value)), tm 7 = .int .i64 i ∧ i ≤ line.length ∧
    tm 6 = .int .i64 (unitsTo line (tabZ tab) i).2 ∧ tm 5 = l ∧ UL h.size h' l uv ∧ uv.map (·.1) = (unitsTo line (tabZ tab) i).1) (fun tm _ => (line.length - intOf (tm 7)).toNat)
    ⟨Keeps.refl H, (by first | rfl | (simp only [wk, wt, wl, ↓reduceIte, Nat.reduceEqDiff, Nat.reduceAdd, Nat.zero_add, not_false_eq_true, not_true_eq_false]; done) | (simp only [wk, wt, wl, ↓reduceIte, Nat.reduceEqDiff, Nat.reduceAdd, Nat.zero_add, not_false_eq_true, not_true_eq_false]; rfl)), (by first | rfl | (simp only [wk, wt, wl, ↓reduceIte, Nat.reduceEqDiff, Nat.reduceAdd, Nat.zero_add, not_false_eq_true, not_true_eq_false]; done) | (simp only [wk, wt, wl, ↓reduceIte, Nat.reduceEqDiff, Nat.reduceAdd, Nat.zero_add, not_false_eq_true, not_true_eq_false]; rfl)), 0, .slice none 0 0, [], (by first | rfl | (simp only [wk, wt, wl, ↓reduceIte, Nat.reduceEqDiff, Nat.reduceAdd, Nat.zero_add, not_false_eq_true, not_true_eq_false]; done) | (simp only [wk, wt, wl, ↓reduceIte, Nat.reduceEqDiff, Nat.reduceAdd, Nat.zero_add, not_false_eq_true, not_true_eq_false]; rfl)), by omega, (by first | rfl | (simp only [wk, wt, wl, ↓reduceIte, Nat.reduceEqDiff, Nat.reduceAdd, Nat.zero_add, not_false_eq_true, not_true_eq_false]; done) | (simp only [wk, wt, wl, ↓reduceIte, Nat.reduceEqDiff, Nat.reduceAdd, Nat.zero_add, not_false_eq_true, not_true_eq_false]; rfl)), (by first | rfl | (simp only [wk, wt, wl, ↓reduceIte, Nat.reduceEqDiff, Nat.reduceAdd, Nat.zero_add, not_false_eq_true, not_true_eq_false]; done) | (simp only [wk, wt, wl, ↓reduceIte, Nat.reduceEqDiff, Nat.reduceAdd, Nat.zero_add, not_false_eq_true, not_true_eq_false]; rfl)), UL.nil, rfl⟩ ?_
  rintro tm h' ⟨K, t0, t1, i, l, uv, t7, hi, t6, t5, L, hus⟩
  have UO := unitsTo_ok (line := line) (tabZ_range tab) i
  have ha' := ha.keeps K
  have hlen' : uv.length = (unitsTo line (tabZ tab) i).1.length := by rw [← hus]; simp
  have hul := UO.len
  have hc0 := UO.col0
  have hc1 := UO.col1
  have wr := uwidth_range (r := line.getD i 0) (col := (unitsTo line (tabZ tab) i).2) (tabZ_range tab)
  simp only [wk, wt, wl, ↓reduceIte, Nat.reduceEqDiff, Nat.reduceAdd, Nat.zero_add, not_false_eq_true, not_true_eq_false, t0, t1, t7, RdI.len ha' underlying23]
  refine condK_dec (fun hd => ?_) (fun hd => ?_)
  · simp only [wk, wt, wl, ↓reduceIte, Nat.reduceEqDiff, Nat.reduceAdd, Nat.zero_add, not_false_eq_true, not_true_eq_false, t0, t1, t5, t6, t7, RdI.index ha' underlying23 asz21 (q := .i64) (i := i) (by omega) (by omega), RdI.at ha' underlying21 rfl (i := i) (by omega)]
    refine zero_ok.use_pure ?_
    simp only [wk, wt, wl, ↓reduceIte, Nat.reduceEqDiff, Nat.reduceAdd, Nat.zero_add, not_false_eq_true, not_true_eq_false, t0, t1, t5, t6, t7]
    refine gateO_boolT (fun hz => ?_) (fun hz => ?_)
    · simp only [wk, wt, wl, ↓reduceIte, Nat.reduceEqDiff, Nat.reduceAdd, Nat.zero_add, not_false_eq_true, not_true_eq_false, t0, t1, t5, t6, t7, hz, Rd.len L.own.1 underlying44]
      refine condK_dec (fun hn => ?_) (fun hn => ?_)
      · have hne : uv ≠ [] := by intro e; subst e; simp at hn
        obtain ⟨pre, ⟨u, tv⟩, rfl⟩ : ∃ pre x, uv = pre ++ [x] := ⟨uv.dropLast, uv.getLast hne, (List.dropLast_concat_getLast hne).symm⟩
        have hlast : (unitsTo line (tabZ tab) i).1.getLast? = some u := by rw [← hus]; simp
        have hu := UO.each u (List.mem_of_getLast? hlast)
        have hto := (UO.last u hlast).1
        obtain ⟨F0, F1, F2, F3, F4⟩ := (UL.ur L).field (i := pre.length) (u := u) (tv := tv) (by simp)
        have hll : ((pre ++ [(u, tv)]).length : Int) = (pre.length : Int) + 1 := by simp
        have hidx : ((pre.length : Int) + 1 - 1).toNat = pre.length := by omega
        have hp : pre.length + 1 = (unitsTo line (tabZ tab) i).1.length := by rw [← hlen']; simp
        have IX : aindexAddr prog 44 l (.int .i64 ((pre.length : Int) + 1 - 1)) = some (.pointer (some (eltA l 5 pre.length))) := by
          have := Rd.index L.own.1 underlying44 asz61 (q := .i64) (i := (pre.length : Int) + 1 - 1) (by omega) (by simp only [List.length_append, List.length_singleton]; omega)
          rw [hidx] at this; exact this
        rw [hto] at F1
        simp (disch := omega) only [wk, wt, wl, ↓reduceIte, Nat.reduceEqDiff, Nat.reduceAdd, Nat.zero_add, not_false_eq_true, not_true_eq_false, t0, t1, t5, t6, t7, hll, Rd.len L.own.1 underlying44, IntWalk.i64_in]
        refine adraw_order [(0, false), (1, false), (2, false), (3, false), (4, false), (5, false), (6, false), (7, false), (8, false), (9, false), (10, false), (11, false)] mixed (by kernel_rfl) (by kernel_rfl) (by kernel_rfl) (by with_reducible repeat (first | exact PF_retK | refine PF_thenK ?_ | refine PF_blockK ?_)) ?_
        simp (disch := omega) only [wk, wt, wl, ↓reduceIte, Nat.reduceEqDiff, Nat.reduceAdd, Nat.zero_add, not_false_eq_true, not_true_eq_false, t0, t1, t5, t6, t7, IX, F0, F1, IntWalk.i64_in, RdI.index ha' underlying23 asz21 (q := .i64) (i := u.fr) (by omega) (by omega), RdI.at ha' underlying21 rfl (i := u.fr.toNat) (by omega)]
        refine zero_ok.use_pure ?_
        simp (disch := omega) only [wk, wt, wl, ↓reduceIte, Nat.reduceEqDiff, Nat.reduceAdd, Nat.zero_add, not_false_eq_true, not_true_eq_false, t0, t1, t5, t6, t7]
        refine condK_split (fun hz3 => ?_) (fun hz3 => ?_)
        · skip
          simp (disch := omega) only [wk, wt, wl, ↓reduceIte, Nat.reduceEqDiff, Nat.reduceAdd, Nat.zero_add, not_false_eq_true, not_true_eq_false, t0, t1, t5, t6, t7, IX, F0, IntWalk.i64_in, RdI.index ha' underlying23 asz21 (q := .i64) (i := u.fr) (by omega) (by omega), RdI.at ha' underlying21 rfl (i := u.fr.toNat) (by omega)]
          refine gateO_dec (fun h9 => ?_) (fun h9 => ?_)
          · simp (disch := omega) only [wk, wt, wl, ↓reduceIte, Nat.reduceEqDiff, Nat.reduceAdd, Nat.zero_add, not_false_eq_true, not_true_eq_false, t0, t1, t5, t6, t7, h9, IX, F0, IntWalk.i64_in, RdI.index ha' underlying23 asz21 (q := .i64) (i := u.fr) (by omega) (by omega), RdI.at ha' underlying21 rfl (i := u.fr.toNat) (by omega)]
            refine condK_dec (fun hm => ?_) (fun hm => ?_)
            · have hj : joins line i u = true := by unfold joins; simp only [hz3, h9, if_true, if_false, Bool.false_eq_true, not_false_eq_true, decide_true, Bool.true_and, decide_eq_true_eq]; omega
              obtain ⟨h2, e2, L2, KK2⟩ := UL.setTo (t := (i : Int) + 1) (Ch.wf K) L
              have K2 := KK2 h rfl K
              obtain ⟨tv', h3, h4, e3, e4, L4, KK4⟩ := UL.addText (r := line.getD i 0) (Ch.wf K2) (Ch.le K2) L2 (by simp only; omega)
              have F4' := ((UL.ur L2).field (i := pre.length) (u := { u with to := (i : Int) + 1 }) (tv := tv) (by simp)).2.2.2.2
              simp (disch := omega) only [wk, wt, wl, ↓reduceIte, Nat.reduceEqDiff, Nat.reduceAdd, Nat.zero_add, not_false_eq_true, not_true_eq_false, t0, t1, t5, t6, t7, IX, IntWalk.i64_in]
              rw [e2]
              simp (disch := omega) only [wk, wt, wl, ↓reduceIte, Nat.reduceEqDiff, Nat.reduceAdd, Nat.zero_add, not_false_eq_true, not_true_eq_false, t0, t1, t5, t6, t7, IX, IntWalk.i64_in, F4', e3, e4, intOf_int]
              have hst : unitsTo line (tabZ tab) i = (pre.map (·.1) ++ [u], (unitsTo line (tabZ tab) i).2) := Prod.ext (by rw [← hus]; simp) rfl
              have hs1 : unitsTo line (tabZ tab) (i + 1) = _ := (congrArg (ustep line (tabZ tab) i (line.getD i 0)) hst).trans (ustep_join hz hj)
              refine ⟨⟨KK4 h rfl K2, i + 1, l, _, by simp, by omega, ?_, rfl, L4, ?_⟩, by omega⟩
              · rw [hs1]
              · rw [hs1]; simp
            · have hpu : (unitsTo line (tabZ tab) i).1 = [] ∨ ¬ zeroB (line.getD i 0) = true ∨ ∃ u, (unitsTo line (tabZ tab) i).1.getLast? = some u ∧ joins line i u = false := .inr (.inr ⟨u, hlast, by unfold joins; simp only [hz3, h9, if_true, if_false, Bool.false_eq_true, not_false_eq_true, decide_true, Bool.true_and, decide_eq_false_iff_not]; omega⟩)
              simp (disch := omega) only [wk, wt, wl, ↓reduceIte, Nat.reduceEqDiff, Nat.reduceAdd, Nat.zero_add, not_false_eq_true, not_true_eq_false, t0, t1, t5, t6, t7, IntWalk.i64_in]
              refine refWidth_ok.use_pure ?_
              simp (disch := omega) only [wk, wt, wl, ↓reduceIte, Nat.reduceEqDiff, Nat.reduceAdd, Nat.zero_add, not_false_eq_true, not_true_eq_false, t0, t1, t5, t6, t7]
              refine (refShow_ok (hline i)).use_pure ?_
              have KS := Keeps.new (Ch.wf K) 21 ((showL (line.getD i 0)).map (Value.int .i32))
              have OS : Own prog h'.size (h'.new 21 ((showL (line.getD i 0)).map (Value.int .i32))) 1 (.slice (some ⟨h'.size, 0, none⟩) (showL (line.getD i 0)).length ((showL (line.getD i 0)).length + 1)) (showL (line.getD i 0)).length (vI (showL (line.getD i 0))) := Own.new (Ch.wf K) (e := 21) (Nat.le_refl _) asz21 (by simp [vI])
              simp (disch := omega) only [wk, wt, wl, ↓reduceIte, Nat.reduceEqDiff, Nat.reduceAdd, Nat.zero_add, not_false_eq_true, not_true_eq_false, t0, t1, t5, t6, t7, build_unit5 (h := h')]
              have fS : ∀ b, blkOf (.slice (some ⟨h'.size, 0, none⟩) (showL (line.getD i 0)).length ((showL (line.getD i 0)).length + 1)) = some b → b = h'.size := fun b hb => by simp only [blkOf, Option.some.injEq] at hb; exact hb.symm
              generalize hsv : Value.slice (some ⟨h'.size, 0, none⟩) (showL (line.getD i 0)).length ((showL (line.getD i 0)).length + 1) = sv at *
              have zS : (h'.new 21 ((showL (line.getD i 0)).map (Value.int .i32))).size = h'.size + 1 := rfl
              generalize h'.new 21 ((showL (line.getD i 0)).map (Value.int .i32)) = hS at *
              have K3 := Keeps.new (Ch.wf KS) 61 [Value.int IntKind.i64 0, Value.int IntKind.i64 0, Value.int IntKind.i64 0, Value.int IntKind.i64 0, Value.slice none 0 0]
              have V3 := Var.new (e := 61) (Ch.wf KS) (cs := [Value.int IntKind.i64 0, Value.int IntKind.i64 0, Value.int IntKind.i64 0, Value.int IntKind.i64 0, Value.slice none 0 0])
              obtain ⟨hh, e4, VV, C4, z4⟩ := V3.store (P := prog) (t := 61) (v := .agg #[.int .i64 i, .int .i64 (i + 1), .int .i64 (unitsTo line (tabZ tab) i).2, .int .i64 (widthZ (line.getD i 0)), sv]) (i := 0) (Ch.wf K3) asz61 (by simp [Value.cells]) (by simp [Value.cells, one_int, OS.1.one])
              rw [e4]; clear e4
              simp only [Value.cells, over_all (xs := [Value.int IntKind.i64 0, Value.int IntKind.i64 0, Value.int IntKind.i64 0, Value.int IntKind.i64 0, Value.slice none 0 0]) (vs := [.int .i64 i, .int .i64 (i + 1), .int .i64 (unitsTo line (tabZ tab) i).2, .int .i64 (widthZ (line.getD i 0)), sv]) rfl] at VV
              have KK : Keeps h' hh := (KS.trans K3).step C4 (fun b hb => by omega)
              have OO := Ch.own C4 (OS.keeps K3) (fun b hb e => by have := fS b hb; omega)
              have FF : ∀ b, blkOf sv = some b → h'.size ≤ b := fun b hb => by have := fS b hb; omega
              have hbb : h'.size < hS.size := by omega
              have nb : blkOf sv ≠ some hS.size := fun e => by have := fS _ e; omega
              clear C4 K3 V3 KS z4
              have h9 : ¬ line.getD i 0 = 9 := by intro e; rw [e] at hz; exact absurd hz (by decide)
              have hwz : widthZ (line.getD i 0) = 0 := widthZ_zero.2 hz
              simp (disch := omega) only [wk, wt, wl, ↓reduceIte, Nat.reduceEqDiff, Nat.reduceAdd, Nat.zero_add, not_false_eq_true, not_true_eq_false, t0, t1, t5, t6, t7]
              refine zero_ok.use_pure ?_
              simp (disch := omega) only [wk, wt, wl, ↓reduceIte, Nat.reduceEqDiff, Nat.reduceAdd, Nat.zero_add, not_false_eq_true, not_true_eq_false, t0, t1, t5, t6, t7, hz]
              obtain ⟨h2, e2, VV2, C2, z2⟩ := VV.store1 (P := prog) (t := 3) (v := .int .i64 1) (i := 3) (Ch.wf KK) asz3 (by simp) rfl
              rw [e2]; clear e2
              simp only [List.set_cons_succ, List.set_cons_zero] at VV2
              have KK2 : Keeps h' h2 := KK.step C2 (fun b hb => by omega)
              simp (disch := omega) only [wk, wt, wl, ↓reduceIte, Nat.reduceEqDiff, Nat.reduceAdd, Nat.zero_add, not_false_eq_true, not_true_eq_false, t0, t1, t5, t6, t7]
              have KN := Keeps.new (Ch.wf KK2) 21 (vI [32, line.getD i 0])
              have VV3 := Keeps.var (Ch.wf KK2) KN VV2
              have hlt := VV2.lt (Ch.wf KK2)
              have ON : Own prog h'.size (h2.new 21 (vI [32, line.getD i 0])) 1 (.slice (some ⟨h2.size, 0, none⟩) 2 3) 2 (vI [32, line.getD i 0]) := Own.new (Ch.wf KK2) (e := 21) (Ch.le KK2) asz21 rfl
              obtain ⟨h3, e3, VV4, C3, z3⟩ := VV3.store1 (P := prog) (t := 23) (v := .slice (some ⟨h2.size, 0, none⟩) 2 3) (i := 4) (Ch.wf KN) asz23 (by simp) rfl
              simp only [vI, List.map_cons, List.map_nil] at e3
              rw [e3]; clear e3
              simp only [List.set_cons_succ, List.set_cons_zero] at VV4
              have KK3 : Keeps h' h3 := (KK2.trans KN).step C3 (fun b hb => by omega)
              have OO3 := Ch.own C3 ON (fun b hb e => by simp only [blkOf, Option.some.injEq] at hb; omega)
              have hu : utext (line.getD i 0) (unitsTo line (tabZ tab) i).2 (tabZ tab) = [32, line.getD i 0] := by simp only [utext, h9, hwz, if_false, if_true]
              have hu2 : uwidth (line.getD i 0) (unitsTo line (tabZ tab) i).2 (tabZ tab) = 1 := by simp only [uwidth, h9, hwz, if_false, if_true]
              have OO4 : Own prog h'.size h3 1 (.slice (some ⟨h2.size, 0, none⟩) 2 3) (utext (line.getD i 0) (unitsTo line (tabZ tab) i).2 (tabZ tab)).length (vI (utext (line.getD i 0) (unitsTo line (tabZ tab) i).2 (tabZ tab))) := by rw [hu]; exact OO3
              have FF4 : ∀ b, blkOf (.slice (some ⟨h2.size, 0, none⟩) 2 3) = some b → h'.size ≤ b := fun b hb => by simp only [blkOf, Option.some.injEq] at hb; have := Ch.le KK2; omega
              generalize Value.slice (some ⟨h2.size, 0, none⟩) 2 3 = tv2 at *
              clear KK OO FF VV VV2 VV3 ON OO3 KK2 KN C2 C3
              have KK := KK3
              have OO := OO4
              have FF := FF4
              have VV : Var h3 hS.size [.int .i64 i, .int .i64 (i + 1), .int .i64 (unitsTo line (tabZ tab) i).2, .int .i64 (uwidth (line.getD i 0) (unitsTo line (tabZ tab) i).2 (tabZ tab)), tv2] := by rw [hu2]; exact VV4
              simp (disch := omega) only [wk, wt, wl, ↓reduceIte, Nat.reduceEqDiff, Nat.reduceAdd, Nat.zero_add, not_false_eq_true, not_true_eq_false, t0, t1, t5, t6, t7, h9]
              have Kh4 := K.trans KK
              have hsz2 := Ch.le K
              have L4 := L.keeps KK
              have O4 := OO.base hsz2
              obtain ⟨l5, h5, e5, L5, C5⟩ := UL.push (u := ⟨i, i + 1, (unitsTo line (tabZ tab) i).2, uwidth (line.getD i 0) (unitsTo line (tabZ tab) i).2 (tabZ tab), utext (line.getD i 0) (unitsTo line (tabZ tab) i).2 (tabZ tab)⟩) (Ch.wf Kh4) (Ch.le Kh4) L4 O4 (fun b k bl kl q1 q2 q3 q4 => by
                have f0 := FF b q1
                have f2 := (KK.2.2.2.1 b k f0 q2).resolve_right fun ⟨_, _, e, _⟩ => e
                have f3 := (L.own.1.blk_lt q3).1
                rw [KK.at f3] at q4
                have f5 := (Ch.wf K).2 bl kl q4
                omega) (by omega)
              simp only [cellsU] at e5
              have V5 := Ch.var (Ch.wf Kh4) C5 VV (fun hd => by
                have := (L.own.1.blk_lt hd.1).1
                omega)
              have V5' := V5.load1 (P := prog) (t := 3) underlying3 rfl (i := 3)
              simp only [List.getElem?_cons_succ, List.getElem?_cons_zero] at V5'
              simp (disch := omega) only [wk, wt, wl, ↓reduceIte, Nat.reduceEqDiff, Nat.reduceAdd, Nat.zero_add, not_false_eq_true, not_true_eq_false, t0, t1, t5, t6, t7, t11, VV.loadA (P := prog) (t := 61) underlying61 rfl asz61, buildA5 (P := prog) (h := _) underlying44 asz61 azero61 rfl (v0 := .int .i64 i) (v1 := .int .i64 (i + 1)) (v2 := .int .i64 (unitsTo line (tabZ tab) i).2) (v3 := .int .i64 (uwidth (line.getD i 0) (unitsTo line (tabZ tab) i).2 (tabZ tab))) (v4 := tv2) rfl rfl rfl rfl OO.1.one, e5, V5', IntWalk.i64_in, intOf_int]
              have hs1 : unitsTo line (tabZ tab) (i + 1) = _ := ustep_push (us := (unitsTo line (tabZ tab) i).1) (col := (unitsTo line (tabZ tab) i).2) hpu
              refine ⟨⟨Kh4.step C5 (fun b hb => hb.2), i + 1, l5, _, by simp, by omega, ?_, rfl, L5, ?_⟩, by omega⟩
              · rw [hs1]
              · rw [hs1, List.map_append, hus]; rfl
          · have hpu : (unitsTo line (tabZ tab) i).1 = [] ∨ ¬ zeroB (line.getD i 0) = true ∨ ∃ u, (unitsTo line (tabZ tab) i).1.getLast? = some u ∧ joins line i u = false := .inr (.inr ⟨u, hlast, by unfold joins; simp only [Decidable.not_not.1 h9, not_true_eq_false, decide_false, Bool.false_and]⟩)
            simp (disch := omega) only [wk, wt, wl, ↓reduceIte, Nat.reduceEqDiff, Nat.reduceAdd, Nat.zero_add, not_false_eq_true, not_true_eq_false, t0, t1, t5, t6, t7, h9, IntWalk.i64_in]
            refine refWidth_ok.use_pure ?_
            simp (disch := omega) only [wk, wt, wl, ↓reduceIte, Nat.reduceEqDiff, Nat.reduceAdd, Nat.zero_add, not_false_eq_true, not_true_eq_false, t0, t1, t5, t6, t7]
            refine (refShow_ok (hline i)).use_pure ?_
            have KS := Keeps.new (Ch.wf K) 21 ((showL (line.getD i 0)).map (Value.int .i32))
            have OS : Own prog h'.size (h'.new 21 ((showL (line.getD i 0)).map (Value.int .i32))) 1 (.slice (some ⟨h'.size, 0, none⟩) (showL (line.getD i 0)).length ((showL (line.getD i 0)).length + 1)) (showL (line.getD i 0)).length (vI (showL (line.getD i 0))) := Own.new (Ch.wf K) (e := 21) (Nat.le_refl _) asz21 (by simp [vI])
            simp (disch := omega) only [wk, wt, wl, ↓reduceIte, Nat.reduceEqDiff, Nat.reduceAdd, Nat.zero_add, not_false_eq_true, not_true_eq_false, t0, t1, t5, t6, t7, build_unit5 (h := h')]
            have fS : ∀ b, blkOf (.slice (some ⟨h'.size, 0, none⟩) (showL (line.getD i 0)).length ((showL (line.getD i 0)).length + 1)) = some b → b = h'.size := fun b hb => by simp only [blkOf, Option.some.injEq] at hb; exact hb.symm
            generalize hsv : Value.slice (some ⟨h'.size, 0, none⟩) (showL (line.getD i 0)).length ((showL (line.getD i 0)).length + 1) = sv at *
            have zS : (h'.new 21 ((showL (line.getD i 0)).map (Value.int .i32))).size = h'.size + 1 := rfl
            generalize h'.new 21 ((showL (line.getD i 0)).map (Value.int .i32)) = hS at *
            have K3 := Keeps.new (Ch.wf KS) 61 [Value.int IntKind.i64 0, Value.int IntKind.i64 0, Value.int IntKind.i64 0, Value.int IntKind.i64 0, Value.slice none 0 0]
            have V3 := Var.new (e := 61) (Ch.wf KS) (cs := [Value.int IntKind.i64 0, Value.int IntKind.i64 0, Value.int IntKind.i64 0, Value.int IntKind.i64 0, Value.slice none 0 0])
            obtain ⟨hh, e4, VV, C4, z4⟩ := V3.store (P := prog) (t := 61) (v := .agg #[.int .i64 i, .int .i64 (i + 1), .int .i64 (unitsTo line (tabZ tab) i).2, .int .i64 (widthZ (line.getD i 0)), sv]) (i := 0) (Ch.wf K3) asz61 (by simp [Value.cells]) (by simp [Value.cells, one_int, OS.1.one])
            rw [e4]; clear e4
            simp only [Value.cells, over_all (xs := [Value.int IntKind.i64 0, Value.int IntKind.i64 0, Value.int IntKind.i64 0, Value.int IntKind.i64 0, Value.slice none 0 0]) (vs := [.int .i64 i, .int .i64 (i + 1), .int .i64 (unitsTo line (tabZ tab) i).2, .int .i64 (widthZ (line.getD i 0)), sv]) rfl] at VV
            have KK : Keeps h' hh := (KS.trans K3).step C4 (fun b hb => by omega)
            have OO := Ch.own C4 (OS.keeps K3) (fun b hb e => by have := fS b hb; omega)
            have FF : ∀ b, blkOf sv = some b → h'.size ≤ b := fun b hb => by have := fS b hb; omega
            have hbb : h'.size < hS.size := by omega
            have nb : blkOf sv ≠ some hS.size := fun e => by have := fS _ e; omega
            clear C4 K3 V3 KS z4
            have h9 : ¬ line.getD i 0 = 9 := by intro e; rw [e] at hz; exact absurd hz (by decide)
            have hwz : widthZ (line.getD i 0) = 0 := widthZ_zero.2 hz
            simp (disch := omega) only [wk, wt, wl, ↓reduceIte, Nat.reduceEqDiff, Nat.reduceAdd, Nat.zero_add, not_false_eq_true, not_true_eq_false, t0, t1, t5, t6, t7]
            refine zero_ok.use_pure ?_
            simp (disch := omega) only [wk, wt, wl, ↓reduceIte, Nat.reduceEqDiff, Nat.reduceAdd, Nat.zero_add, not_false_eq_true, not_true_eq_false, t0, t1, t5, t6, t7, hz]
            obtain ⟨h2, e2, VV2, C2, z2⟩ := VV.store1 (P := prog) (t := 3) (v := .int .i64 1) (i := 3) (Ch.wf KK) asz3 (by simp) rfl
            rw [e2]; clear e2
            simp only [List.set_cons_succ, List.set_cons_zero] at VV2
            have KK2 : Keeps h' h2 := KK.step C2 (fun b hb => by omega)
            simp (disch := omega) only [wk, wt, wl, ↓reduceIte, Nat.reduceEqDiff, Nat.reduceAdd, Nat.zero_add, not_false_eq_true, not_true_eq_false, t0, t1, t5, t6, t7]
            have KN := Keeps.new (Ch.wf KK2) 21 (vI [32, line.getD i 0])
            have VV3 := Keeps.var (Ch.wf KK2) KN VV2
            have hlt := VV2.lt (Ch.wf KK2)
            have ON : Own prog h'.size (h2.new 21 (vI [32, line.getD i 0])) 1 (.slice (some ⟨h2.size, 0, none⟩) 2 3) 2 (vI [32, line.getD i 0]) := Own.new (Ch.wf KK2) (e := 21) (Ch.le KK2) asz21 rfl
            obtain ⟨h3, e3, VV4, C3, z3⟩ := VV3.store1 (P := prog) (t := 23) (v := .slice (some ⟨h2.size, 0, none⟩) 2 3) (i := 4) (Ch.wf KN) asz23 (by simp) rfl
            simp only [vI, List.map_cons, List.map_nil] at e3
            rw [e3]; clear e3
            simp only [List.set_cons_succ, List.set_cons_zero] at VV4
            have KK3 : Keeps h' h3 := (KK2.trans KN).step C3 (fun b hb => by omega)
            have OO3 := Ch.own C3 ON (fun b hb e => by simp only [blkOf, Option.some.injEq] at hb; omega)
            have hu : utext (line.getD i 0) (unitsTo line (tabZ tab) i).2 (tabZ tab) = [32, line.getD i 0] := by simp only [utext, h9, hwz, if_false, if_true]
            have hu2 : uwidth (line.getD i 0) (unitsTo line (tabZ tab) i).2 (tabZ tab) = 1 := by simp only [uwidth, h9, hwz, if_false, if_true]
            have OO4 : Own prog h'.size h3 1 (.slice (some ⟨h2.size, 0, none⟩) 2 3) (utext (line.getD i 0) (unitsTo line (tabZ tab) i).2 (tabZ tab)).length (vI (utext (line.getD i 0) (unitsTo line (tabZ tab) i).2 (tabZ tab))) := by rw [hu]; exact OO3
            have FF4 : ∀ b, blkOf (.slice (some ⟨h2.size, 0, none⟩) 2 3) = some b → h'.size ≤ b := fun b hb => by simp only [blkOf, Option.some.injEq] at hb; have := Ch.le KK2; omega
            generalize Value.slice (some ⟨h2.size, 0, none⟩) 2 3 = tv2 at *
            clear KK OO FF VV VV2 VV3 ON OO3 KK2 KN C2 C3
            have KK := KK3
            have OO := OO4
            have FF := FF4
            have VV : Var h3 hS.size [.int .i64 i, .int .i64 (i + 1), .int .i64 (unitsTo line (tabZ tab) i).2, .int .i64 (uwidth (line.getD i 0) (unitsTo line (tabZ tab) i).2 (tabZ tab)), tv2] := by rw [hu2]; exact VV4
            simp (disch := omega) only [wk, wt, wl, ↓reduceIte, Nat.reduceEqDiff, Nat.reduceAdd, Nat.zero_add, not_false_eq_true, not_true_eq_false, t0, t1, t5, t6, t7, h9]
            have Kh4 := K.trans KK
            have hsz2 := Ch.le K
            have L4 := L.keeps KK
            have O4 := OO.base hsz2
            obtain ⟨l5, h5, e5, L5, C5⟩ := UL.push (u := ⟨i, i + 1, (unitsTo line (tabZ tab) i).2, uwidth (line.getD i 0) (unitsTo line (tabZ tab) i).2 (tabZ tab), utext (line.getD i 0) (unitsTo line (tabZ tab) i).2 (tabZ tab)⟩) (Ch.wf Kh4) (Ch.le Kh4) L4 O4 (fun b k bl kl q1 q2 q3 q4 => by
              have f0 := FF b q1
              have f2 := (KK.2.2.2.1 b k f0 q2).resolve_right fun ⟨_, _, e, _⟩ => e
              have f3 := (L.own.1.blk_lt q3).1
              rw [KK.at f3] at q4
              have f5 := (Ch.wf K).2 bl kl q4
              omega) (by omega)
            simp only [cellsU] at e5
            have V5 := Ch.var (Ch.wf Kh4) C5 VV (fun hd => by
              have := (L.own.1.blk_lt hd.1).1
              omega)
            have V5' := V5.load1 (P := prog) (t := 3) underlying3 rfl (i := 3)
            simp only [List.getElem?_cons_succ, List.getElem?_cons_zero] at V5'
            simp (disch := omega) only [wk, wt, wl, ↓reduceIte, Nat.reduceEqDiff, Nat.reduceAdd, Nat.zero_add, not_false_eq_true, not_true_eq_false, t0, t1, t5, t6, t7, t11, VV.loadA (P := prog) (t := 61) underlying61 rfl asz61, buildA5 (P := prog) (h := _) underlying44 asz61 azero61 rfl (v0 := .int .i64 i) (v1 := .int .i64 (i + 1)) (v2 := .int .i64 (unitsTo line (tabZ tab) i).2) (v3 := .int .i64 (uwidth (line.getD i 0) (unitsTo line (tabZ tab) i).2 (tabZ tab))) (v4 := tv2) rfl rfl rfl rfl OO.1.one, e5, V5', IntWalk.i64_in, intOf_int]
            have hs1 : unitsTo line (tabZ tab) (i + 1) = _ := ustep_push (us := (unitsTo line (tabZ tab) i).1) (col := (unitsTo line (tabZ tab) i).2) hpu
            refine ⟨⟨Kh4.step C5 (fun b hb => hb.2), i + 1, l5, _, by simp, by omega, ?_, rfl, L5, ?_⟩, by omega⟩
            · rw [hs1]
            · rw [hs1, List.map_append, hus]; rfl
        · skip
          simp (disch := omega) only [wk, wt, wl, ↓reduceIte, Nat.reduceEqDiff, Nat.reduceAdd, Nat.zero_add, not_false_eq_true, not_true_eq_false, t0, t1, t5, t6, t7, IX, F0, IntWalk.i64_in, RdI.index ha' underlying23 asz21 (q := .i64) (i := u.fr) (by omega) (by omega), RdI.at ha' underlying21 rfl (i := u.fr.toNat) (by omega)]
          refine gateO_dec (fun h9 => ?_) (fun h9 => ?_)
          · simp (disch := omega) only [wk, wt, wl, ↓reduceIte, Nat.reduceEqDiff, Nat.reduceAdd, Nat.zero_add, not_false_eq_true, not_true_eq_false, t0, t1, t5, t6, t7, h9, IX, F0, IntWalk.i64_in, RdI.index ha' underlying23 asz21 (q := .i64) (i := u.fr) (by omega) (by omega), RdI.at ha' underlying21 rfl (i := u.fr.toNat) (by omega)]
            refine condK_dec (fun hm => ?_) (fun hm => ?_)
            · have hj : joins line i u = true := by unfold joins; simp only [hz3, h9, if_true, if_false, Bool.false_eq_true, not_false_eq_true, decide_true, Bool.true_and, decide_eq_true_eq]; omega
              obtain ⟨h2, e2, L2, KK2⟩ := UL.setTo (t := (i : Int) + 1) (Ch.wf K) L
              have K2 := KK2 h rfl K
              obtain ⟨tv', h3, h4, e3, e4, L4, KK4⟩ := UL.addText (r := line.getD i 0) (Ch.wf K2) (Ch.le K2) L2 (by simp only; omega)
              have F4' := ((UL.ur L2).field (i := pre.length) (u := { u with to := (i : Int) + 1 }) (tv := tv) (by simp)).2.2.2.2
              simp (disch := omega) only [wk, wt, wl, ↓reduceIte, Nat.reduceEqDiff, Nat.reduceAdd, Nat.zero_add, not_false_eq_true, not_true_eq_false, t0, t1, t5, t6, t7, IX, IntWalk.i64_in]
              rw [e2]
              simp (disch := omega) only [wk, wt, wl, ↓reduceIte, Nat.reduceEqDiff, Nat.reduceAdd, Nat.zero_add, not_false_eq_true, not_true_eq_false, t0, t1, t5, t6, t7, IX, IntWalk.i64_in, F4', e3, e4, intOf_int]
              have hst : unitsTo line (tabZ tab) i = (pre.map (·.1) ++ [u], (unitsTo line (tabZ tab) i).2) := Prod.ext (by rw [← hus]; simp) rfl
              have hs1 : unitsTo line (tabZ tab) (i + 1) = _ := (congrArg (ustep line (tabZ tab) i (line.getD i 0)) hst).trans (ustep_join hz hj)
              refine ⟨⟨KK4 h rfl K2, i + 1, l, _, by simp, by omega, ?_, rfl, L4, ?_⟩, by omega⟩
              · rw [hs1]
              · rw [hs1]; simp
            · have hpu : (unitsTo line (tabZ tab) i).1 = [] ∨ ¬ zeroB (line.getD i 0) = true ∨ ∃ u, (unitsTo line (tabZ tab) i).1.getLast? = some u ∧ joins line i u = false := .inr (.inr ⟨u, hlast, by unfold joins; simp only [hz3, h9, if_true, if_false, Bool.false_eq_true, not_false_eq_true, decide_true, Bool.true_and, decide_eq_false_iff_not]; omega⟩)
              simp (disch := omega) only [wk, wt, wl, ↓reduceIte, Nat.reduceEqDiff, Nat.reduceAdd, Nat.zero_add, not_false_eq_true, not_true_eq_false, t0, t1, t5, t6, t7, IntWalk.i64_in]
              refine refWidth_ok.use_pure ?_
              simp (disch := omega) only [wk, wt, wl, ↓reduceIte, Nat.reduceEqDiff, Nat.reduceAdd, Nat.zero_add, not_false_eq_true, not_true_eq_false, t0, t1, t5, t6, t7]
              refine (refShow_ok (hline i)).use_pure ?_
              have KS := Keeps.new (Ch.wf K) 21 ((showL (line.getD i 0)).map (Value.int .i32))
              have OS : Own prog h'.size (h'.new 21 ((showL (line.getD i 0)).map (Value.int .i32))) 1 (.slice (some ⟨h'.size, 0, none⟩) (showL (line.getD i 0)).length ((showL (line.getD i 0)).length + 1)) (showL (line.getD i 0)).length (vI (showL (line.getD i 0))) := Own.new (Ch.wf K) (e := 21) (Nat.le_refl _) asz21 (by simp [vI])
              simp (disch := omega) only [wk, wt, wl, ↓reduceIte, Nat.reduceEqDiff, Nat.reduceAdd, Nat.zero_add, not_false_eq_true, not_true_eq_false, t0, t1, t5, t6, t7, build_unit5 (h := h')]
              have fS : ∀ b, blkOf (.slice (some ⟨h'.size, 0, none⟩) (showL (line.getD i 0)).length ((showL (line.getD i 0)).length + 1)) = some b → b = h'.size := fun b hb => by simp only [blkOf, Option.some.injEq] at hb; exact hb.symm
              generalize hsv : Value.slice (some ⟨h'.size, 0, none⟩) (showL (line.getD i 0)).length ((showL (line.getD i 0)).length + 1) = sv at *
              have zS : (h'.new 21 ((showL (line.getD i 0)).map (Value.int .i32))).size = h'.size + 1 := rfl
              generalize h'.new 21 ((showL (line.getD i 0)).map (Value.int .i32)) = hS at *
              have K3 := Keeps.new (Ch.wf KS) 61 [Value.int IntKind.i64 0, Value.int IntKind.i64 0, Value.int IntKind.i64 0, Value.int IntKind.i64 0, Value.slice none 0 0]
              have V3 := Var.new (e := 61) (Ch.wf KS) (cs := [Value.int IntKind.i64 0, Value.int IntKind.i64 0, Value.int IntKind.i64 0, Value.int IntKind.i64 0, Value.slice none 0 0])
              obtain ⟨hh, e4, VV, C4, z4⟩ := V3.store (P := prog) (t := 61) (v := .agg #[.int .i64 i, .int .i64 (i + 1), .int .i64 (unitsTo line (tabZ tab) i).2, .int .i64 (widthZ (line.getD i 0)), sv]) (i := 0) (Ch.wf K3) asz61 (by simp [Value.cells]) (by simp [Value.cells, one_int, OS.1.one])
              rw [e4]; clear e4
              simp only [Value.cells, over_all (xs := [Value.int IntKind.i64 0, Value.int IntKind.i64 0, Value.int IntKind.i64 0, Value.int IntKind.i64 0, Value.slice none 0 0]) (vs := [.int .i64 i, .int .i64 (i + 1), .int .i64 (unitsTo line (tabZ tab) i).2, .int .i64 (widthZ (line.getD i 0)), sv]) rfl] at VV
              have KK : Keeps h' hh := (KS.trans K3).step C4 (fun b hb => by omega)
              have OO := Ch.own C4 (OS.keeps K3) (fun b hb e => by have := fS b hb; omega)
              have FF : ∀ b, blkOf sv = some b → h'.size ≤ b := fun b hb => by have := fS b hb; omega
              have hbb : h'.size < hS.size := by omega
              have nb : blkOf sv ≠ some hS.size := fun e => by have := fS _ e; omega
              clear C4 K3 V3 KS z4
              have h9 : ¬ line.getD i 0 = 9 := by intro e; rw [e] at hz; exact absurd hz (by decide)
              have hwz : widthZ (line.getD i 0) = 0 := widthZ_zero.2 hz
              simp (disch := omega) only [wk, wt, wl, ↓reduceIte, Nat.reduceEqDiff, Nat.reduceAdd, Nat.zero_add, not_false_eq_true, not_true_eq_false, t0, t1, t5, t6, t7]
              refine zero_ok.use_pure ?_
              simp (disch := omega) only [wk, wt, wl, ↓reduceIte, Nat.reduceEqDiff, Nat.reduceAdd, Nat.zero_add, not_false_eq_true, not_true_eq_false, t0, t1, t5, t6, t7, hz]
              obtain ⟨h2, e2, VV2, C2, z2⟩ := VV.store1 (P := prog) (t := 3) (v := .int .i64 1) (i := 3) (Ch.wf KK) asz3 (by simp) rfl
              rw [e2]; clear e2
              simp only [List.set_cons_succ, List.set_cons_zero] at VV2
              have KK2 : Keeps h' h2 := KK.step C2 (fun b hb => by omega)
              simp (disch := omega) only [wk, wt, wl, ↓reduceIte, Nat.reduceEqDiff, Nat.reduceAdd, Nat.zero_add, not_false_eq_true, not_true_eq_false, t0, t1, t5, t6, t7]
              have KN := Keeps.new (Ch.wf KK2) 21 (vI [32, line.getD i 0])
              have VV3 := Keeps.var (Ch.wf KK2) KN VV2
              have hlt := VV2.lt (Ch.wf KK2)
              have ON : Own prog h'.size (h2.new 21 (vI [32, line.getD i 0])) 1 (.slice (some ⟨h2.size, 0, none⟩) 2 3) 2 (vI [32, line.getD i 0]) := Own.new (Ch.wf KK2) (e := 21) (Ch.le KK2) asz21 rfl
              obtain ⟨h3, e3, VV4, C3, z3⟩ := VV3.store1 (P := prog) (t := 23) (v := .slice (some ⟨h2.size, 0, none⟩) 2 3) (i := 4) (Ch.wf KN) asz23 (by simp) rfl
              simp only [vI, List.map_cons, List.map_nil] at e3
              rw [e3]; clear e3
              simp only [List.set_cons_succ, List.set_cons_zero] at VV4
              have KK3 : Keeps h' h3 := (KK2.trans KN).step C3 (fun b hb => by omega)
              have OO3 := Ch.own C3 ON (fun b hb e => by simp only [blkOf, Option.some.injEq] at hb; omega)
              have hu : utext (line.getD i 0) (unitsTo line (tabZ tab) i).2 (tabZ tab) = [32, line.getD i 0] := by simp only [utext, h9, hwz, if_false, if_true]
              have hu2 : uwidth (line.getD i 0) (unitsTo line (tabZ tab) i).2 (tabZ tab) = 1 := by simp only [uwidth, h9, hwz, if_false, if_true]
              have OO4 : Own prog h'.size h3 1 (.slice (some ⟨h2.size, 0, none⟩) 2 3) (utext (line.getD i 0) (unitsTo line (tabZ tab) i).2 (tabZ tab)).length (vI (utext (line.getD i 0) (unitsTo line (tabZ tab) i).2 (tabZ tab))) := by rw [hu]; exact OO3
              have FF4 : ∀ b, blkOf (.slice (some ⟨h2.size, 0, none⟩) 2 3) = some b → h'.size ≤ b := fun b hb => by simp only [blkOf, Option.some.injEq] at hb; have := Ch.le KK2; omega
              generalize Value.slice (some ⟨h2.size, 0, none⟩) 2 3 = tv2 at *
              clear KK OO FF VV VV2 VV3 ON OO3 KK2 KN C2 C3
              have KK := KK3
              have OO := OO4
              have FF := FF4
              have VV : Var h3 hS.size [.int .i64 i, .int .i64 (i + 1), .int .i64 (unitsTo line (tabZ tab) i).2, .int .i64 (uwidth (line.getD i 0) (unitsTo line (tabZ tab) i).2 (tabZ tab)), tv2] := by rw [hu2]; exact VV4
              simp (disch := omega) only [wk, wt, wl, ↓reduceIte, Nat.reduceEqDiff, Nat.reduceAdd, Nat.zero_add, not_false_eq_true, not_true_eq_false, t0, t1, t5, t6, t7, h9]
              have Kh4 := K.trans KK
              have hsz2 := Ch.le K
              have L4 := L.keeps KK
              have O4 := OO.base hsz2
              obtain ⟨l5, h5, e5, L5, C5⟩ := UL.push (u := ⟨i, i + 1, (unitsTo line (tabZ tab) i).2, uwidth (line.getD i 0) (unitsTo line (tabZ tab) i).2 (tabZ tab), utext (line.getD i 0) (unitsTo line (tabZ tab) i).2 (tabZ tab)⟩) (Ch.wf Kh4) (Ch.le Kh4) L4 O4 (fun b k bl kl q1 q2 q3 q4 => by
                have f0 := FF b q1
                have f2 := (KK.2.2.2.1 b k f0 q2).resolve_right fun ⟨_, _, e, _⟩ => e
                have f3 := (L.own.1.blk_lt q3).1
                rw [KK.at f3] at q4
                have f5 := (Ch.wf K).2 bl kl q4
                omega) (by omega)
              simp only [cellsU] at e5
              have V5 := Ch.var (Ch.wf Kh4) C5 VV (fun hd => by
                have := (L.own.1.blk_lt hd.1).1
                omega)
              have V5' := V5.load1 (P := prog) (t := 3) underlying3 rfl (i := 3)
              simp only [List.getElem?_cons_succ, List.getElem?_cons_zero] at V5'
              simp (disch := omega) only [wk, wt, wl, ↓reduceIte, Nat.reduceEqDiff, Nat.reduceAdd, Nat.zero_add, not_false_eq_true, not_true_eq_false, t0, t1, t5, t6, t7, t11, VV.loadA (P := prog) (t := 61) underlying61 rfl asz61, buildA5 (P := prog) (h := _) underlying44 asz61 azero61 rfl (v0 := .int .i64 i) (v1 := .int .i64 (i + 1)) (v2 := .int .i64 (unitsTo line (tabZ tab) i).2) (v3 := .int .i64 (uwidth (line.getD i 0) (unitsTo line (tabZ tab) i).2 (tabZ tab))) (v4 := tv2) rfl rfl rfl rfl OO.1.one, e5, V5', IntWalk.i64_in, intOf_int]
              have hs1 : unitsTo line (tabZ tab) (i + 1) = _ := ustep_push (us := (unitsTo line (tabZ tab) i).1) (col := (unitsTo line (tabZ tab) i).2) hpu
              refine ⟨⟨Kh4.step C5 (fun b hb => hb.2), i + 1, l5, _, by simp, by omega, ?_, rfl, L5, ?_⟩, by omega⟩
              · rw [hs1]
              · rw [hs1, List.map_append, hus]; rfl
          · have hpu : (unitsTo line (tabZ tab) i).1 = [] ∨ ¬ zeroB (line.getD i 0) = true ∨ ∃ u, (unitsTo line (tabZ tab) i).1.getLast? = some u ∧ joins line i u = false := .inr (.inr ⟨u, hlast, by unfold joins; simp only [Decidable.not_not.1 h9, not_true_eq_false, decide_false, Bool.false_and]⟩)
            simp (disch := omega) only [wk, wt, wl, ↓reduceIte, Nat.reduceEqDiff, Nat.reduceAdd, Nat.zero_add, not_false_eq_true, not_true_eq_false, t0, t1, t5, t6, t7, h9, IntWalk.i64_in]
            refine refWidth_ok.use_pure ?_
            simp (disch := omega) only [wk, wt, wl, ↓reduceIte, Nat.reduceEqDiff, Nat.reduceAdd, Nat.zero_add, not_false_eq_true, not_true_eq_false, t0, t1, t5, t6, t7]
            refine (refShow_ok (hline i)).use_pure ?_
            have KS := Keeps.new (Ch.wf K) 21 ((showL (line.getD i 0)).map (Value.int .i32))
            have OS : Own prog h'.size (h'.new 21 ((showL (line.getD i 0)).map (Value.int .i32))) 1 (.slice (some ⟨h'.size, 0, none⟩) (showL (line.getD i 0)).length ((showL (line.getD i 0)).length + 1)) (showL (line.getD i 0)).length (vI (showL (line.getD i 0))) := Own.new (Ch.wf K) (e := 21) (Nat.le_refl _) asz21 (by simp [vI])
            simp (disch := omega) only [wk, wt, wl, ↓reduceIte, Nat.reduceEqDiff, Nat.reduceAdd, Nat.zero_add, not_false_eq_true, not_true_eq_false, t0, t1, t5, t6, t7, build_unit5 (h := h')]
            have fS : ∀ b, blkOf (.slice (some ⟨h'.size, 0, none⟩) (showL (line.getD i 0)).length ((showL (line.getD i 0)).length + 1)) = some b → b = h'.size := fun b hb => by simp only [blkOf, Option.some.injEq] at hb; exact hb.symm
            generalize hsv : Value.slice (some ⟨h'.size, 0, none⟩) (showL (line.getD i 0)).length ((showL (line.getD i 0)).length + 1) = sv at *
            have zS : (h'.new 21 ((showL (line.getD i 0)).map (Value.int .i32))).size = h'.size + 1 := rfl
            generalize h'.new 21 ((showL (line.getD i 0)).map (Value.int .i32)) = hS at *
            have K3 := Keeps.new (Ch.wf KS) 61 [Value.int IntKind.i64 0, Value.int IntKind.i64 0, Value.int IntKind.i64 0, Value.int IntKind.i64 0, Value.slice none 0 0]
            have V3 := Var.new (e := 61) (Ch.wf KS) (cs := [Value.int IntKind.i64 0, Value.int IntKind.i64 0, Value.int IntKind.i64 0, Value.int IntKind.i64 0, Value.slice none 0 0])
            obtain ⟨hh, e4, VV, C4, z4⟩ := V3.store (P := prog) (t := 61) (v := .agg #[.int .i64 i, .int .i64 (i + 1), .int .i64 (unitsTo line (tabZ tab) i).2, .int .i64 (widthZ (line.getD i 0)), sv]) (i := 0) (Ch.wf K3) asz61 (by simp [Value.cells]) (by simp [Value.cells, one_int, OS.1.one])
            rw [e4]; clear e4
            simp only [Value.cells, over_all (xs := [Value.int IntKind.i64 0, Value.int IntKind.i64 0, Value.int IntKind.i64 0, Value.int IntKind.i64 0, Value.slice none 0 0]) (vs := [.int .i64 i, .int .i64 (i + 1), .int .i64 (unitsTo line (tabZ tab) i).2, .int .i64 (widthZ (line.getD i 0)), sv]) rfl] at VV
            have KK : Keeps h' hh := (KS.trans K3).step C4 (fun b hb => by omega)
            have OO := Ch.own C4 (OS.keeps K3) (fun b hb e => by have := fS b hb; omega)
            have FF : ∀ b, blkOf sv = some b → h'.size ≤ b := fun b hb => by have := fS b hb; omega
            have hbb : h'.size < hS.size := by omega
            have nb : blkOf sv ≠ some hS.size := fun e => by have := fS _ e; omega
            clear C4 K3 V3 KS z4
            have h9 : ¬ line.getD i 0 = 9 := by intro e; rw [e] at hz; exact absurd hz (by decide)
            have hwz : widthZ (line.getD i 0) = 0 := widthZ_zero.2 hz
            simp (disch := omega) only [wk, wt, wl, ↓reduceIte, Nat.reduceEqDiff, Nat.reduceAdd, Nat.zero_add, not_false_eq_true, not_true_eq_false, t0, t1, t5, t6, t7]
            refine zero_ok.use_pure ?_
            simp (disch := omega) only [wk, wt, wl, ↓reduceIte, Nat.reduceEqDiff, Nat.reduceAdd, Nat.zero_add, not_false_eq_true, not_true_eq_false, t0, t1, t5, t6, t7, hz]
            obtain ⟨h2, e2, VV2, C2, z2⟩ := VV.store1 (P := prog) (t := 3) (v := .int .i64 1) (i := 3) (Ch.wf KK) asz3 (by simp) rfl
            rw [e2]; clear e2
            simp only [List.set_cons_succ, List.set_cons_zero] at VV2
            have KK2 : Keeps h' h2 := KK.step C2 (fun b hb => by omega)
            simp (disch := omega) only [wk, wt, wl, ↓reduceIte, Nat.reduceEqDiff, Nat.reduceAdd, Nat.zero_add, not_false_eq_true, not_true_eq_false, t0, t1, t5, t6, t7]
            have KN := Keeps.new (Ch.wf KK2) 21 (vI [32, line.getD i 0])
            have VV3 := Keeps.var (Ch.wf KK2) KN VV2
            have hlt := VV2.lt (Ch.wf KK2)
            have ON : Own prog h'.size (h2.new 21 (vI [32, line.getD i 0])) 1 (.slice (some ⟨h2.size, 0, none⟩) 2 3) 2 (vI [32, line.getD i 0]) := Own.new (Ch.wf KK2) (e := 21) (Ch.le KK2) asz21 rfl
            obtain ⟨h3, e3, VV4, C3, z3⟩ := VV3.store1 (P := prog) (t := 23) (v := .slice (some ⟨h2.size, 0, none⟩) 2 3) (i := 4) (Ch.wf KN) asz23 (by simp) rfl
            simp only [vI, List.map_cons, List.map_nil] at e3
            rw [e3]; clear e3
            simp only [List.set_cons_succ, List.set_cons_zero] at VV4
            have KK3 : Keeps h' h3 := (KK2.trans KN).step C3 (fun b hb => by omega)
            have OO3 := Ch.own C3 ON (fun b hb e => by simp only [blkOf, Option.some.injEq] at hb; omega)
            have hu : utext (line.getD i 0) (unitsTo line (tabZ tab) i).2 (tabZ tab) = [32, line.getD i 0] := by simp only [utext, h9, hwz, if_false, if_true]
            have hu2 : uwidth (line.getD i 0) (unitsTo line (tabZ tab) i).2 (tabZ tab) = 1 := by simp only [uwidth, h9, hwz, if_false, if_true]
            have OO4 : Own prog h'.size h3 1 (.slice (some ⟨h2.size, 0, none⟩) 2 3) (utext (line.getD i 0) (unitsTo line (tabZ tab) i).2 (tabZ tab)).length (vI (utext (line.getD i 0) (unitsTo line (tabZ tab) i).2 (tabZ tab))) := by rw [hu]; exact OO3
            have FF4 : ∀ b, blkOf (.slice (some ⟨h2.size, 0, none⟩) 2 3) = some b → h'.size ≤ b := fun b hb => by simp only [blkOf, Option.some.injEq] at hb; have := Ch.le KK2; omega
            generalize Value.slice (some ⟨h2.size, 0, none⟩) 2 3 = tv2 at *
            clear KK OO FF VV VV2 VV3 ON OO3 KK2 KN C2 C3
            have KK := KK3
            have OO := OO4
            have FF := FF4
            have VV : Var h3 hS.size [.int .i64 i, .int .i64 (i + 1), .int .i64 (unitsTo line (tabZ tab) i).2, .int .i64 (uwidth (line.getD i 0) (unitsTo line (tabZ tab) i).2 (tabZ tab)), tv2] := by rw [hu2]; exact VV4
            simp (disch := omega) only [wk, wt, wl, ↓reduceIte, Nat.reduceEqDiff, Nat.reduceAdd, Nat.zero_add, not_false_eq_true, not_true_eq_false, t0, t1, t5, t6, t7, h9]
            have Kh4 := K.trans KK
            have hsz2 := Ch.le K
            have L4 := L.keeps KK
            have O4 := OO.base hsz2
            obtain ⟨l5, h5, e5, L5, C5⟩ := UL.push (u := ⟨i, i + 1, (unitsTo line (tabZ tab) i).2, uwidth (line.getD i 0) (unitsTo line (tabZ tab) i).2 (tabZ tab), utext (line.getD i 0) (unitsTo line (tabZ tab) i).2 (tabZ tab)⟩) (Ch.wf Kh4) (Ch.le Kh4) L4 O4 (fun b k bl kl q1 q2 q3 q4 => by
              have f0 := FF b q1
              have f2 := (KK.2.2.2.1 b k f0 q2).resolve_right fun ⟨_, _, e, _⟩ => e
              have f3 := (L.own.1.blk_lt q3).1
              rw [KK.at f3] at q4
              have f5 := (Ch.wf K).2 bl kl q4
              omega) (by omega)
            simp only [cellsU] at e5
            have V5 := Ch.var (Ch.wf Kh4) C5 VV (fun hd => by
              have := (L.own.1.blk_lt hd.1).1
              omega)
            have V5' := V5.load1 (P := prog) (t := 3) underlying3 rfl (i := 3)
            simp only [List.getElem?_cons_succ, List.getElem?_cons_zero] at V5'
            simp (disch := omega) only [wk, wt, wl, ↓reduceIte, Nat.reduceEqDiff, Nat.reduceAdd, Nat.zero_add, not_false_eq_true, not_true_eq_false, t0, t1, t5, t6, t7, t11, VV.loadA (P := prog) (t := 61) underlying61 rfl asz61, buildA5 (P := prog) (h := _) underlying44 asz61 azero61 rfl (v0 := .int .i64 i) (v1 := .int .i64 (i + 1)) (v2 := .int .i64 (unitsTo line (tabZ tab) i).2) (v3 := .int .i64 (uwidth (line.getD i 0) (unitsTo line (tabZ tab) i).2 (tabZ tab))) (v4 := tv2) rfl rfl rfl rfl OO.1.one, e5, V5', IntWalk.i64_in, intOf_int]
            have hs1 : unitsTo line (tabZ tab) (i + 1) = _ := ustep_push (us := (unitsTo line (tabZ tab) i).1) (col := (unitsTo line (tabZ tab) i).2) hpu
            refine ⟨⟨Kh4.step C5 (fun b hb => hb.2), i + 1, l5, _, by simp, by omega, ?_, rfl, L5, ?_⟩, by omega⟩
            · rw [hs1]
            · rw [hs1, List.map_append, hus]; rfl
      · have hpu : (unitsTo line (tabZ tab) i).1 = [] ∨ ¬ zeroB (line.getD i 0) = true ∨ ∃ u, (unitsTo line (tabZ tab) i).1.getLast? = some u ∧ joins line i u = false := .inl (List.eq_nil_of_length_eq_zero (by omega))
        simp (disch := omega) only [wk, wt, wl, ↓reduceIte, Nat.reduceEqDiff, Nat.reduceAdd, Nat.zero_add, not_false_eq_true, not_true_eq_false, t0, t1, t5, t6, t7, hz, IntWalk.i64_in]
        refine refWidth_ok.use_pure ?_
        simp (disch := omega) only [wk, wt, wl, ↓reduceIte, Nat.reduceEqDiff, Nat.reduceAdd, Nat.zero_add, not_false_eq_true, not_true_eq_false, t0, t1, t5, t6, t7]
        refine (refShow_ok (hline i)).use_pure ?_
        have KS := Keeps.new (Ch.wf K) 21 ((showL (line.getD i 0)).map (Value.int .i32))
        have OS : Own prog h'.size (h'.new 21 ((showL (line.getD i 0)).map (Value.int .i32))) 1 (.slice (some ⟨h'.size, 0, none⟩) (showL (line.getD i 0)).length ((showL (line.getD i 0)).length + 1)) (showL (line.getD i 0)).length (vI (showL (line.getD i 0))) := Own.new (Ch.wf K) (e := 21) (Nat.le_refl _) asz21 (by simp [vI])
        simp (disch := omega) only [wk, wt, wl, ↓reduceIte, Nat.reduceEqDiff, Nat.reduceAdd, Nat.zero_add, not_false_eq_true, not_true_eq_false, t0, t1, t5, t6, t7, build_unit5 (h := h')]
        have fS : ∀ b, blkOf (.slice (some ⟨h'.size, 0, none⟩) (showL (line.getD i 0)).length ((showL (line.getD i 0)).length + 1)) = some b → b = h'.size := fun b hb => by simp only [blkOf, Option.some.injEq] at hb; exact hb.symm
        generalize hsv : Value.slice (some ⟨h'.size, 0, none⟩) (showL (line.getD i 0)).length ((showL (line.getD i 0)).length + 1) = sv at *
        have zS : (h'.new 21 ((showL (line.getD i 0)).map (Value.int .i32))).size = h'.size + 1 := rfl
        generalize h'.new 21 ((showL (line.getD i 0)).map (Value.int .i32)) = hS at *
        have K3 := Keeps.new (Ch.wf KS) 61 [Value.int IntKind.i64 0, Value.int IntKind.i64 0, Value.int IntKind.i64 0, Value.int IntKind.i64 0, Value.slice none 0 0]
        have V3 := Var.new (e := 61) (Ch.wf KS) (cs := [Value.int IntKind.i64 0, Value.int IntKind.i64 0, Value.int IntKind.i64 0, Value.int IntKind.i64 0, Value.slice none 0 0])
        obtain ⟨hh, e4, VV, C4, z4⟩ := V3.store (P := prog) (t := 61) (v := .agg #[.int .i64 i, .int .i64 (i + 1), .int .i64 (unitsTo line (tabZ tab) i).2, .int .i64 (widthZ (line.getD i 0)), sv]) (i := 0) (Ch.wf K3) asz61 (by simp [Value.cells]) (by simp [Value.cells, one_int, OS.1.one])
        rw [e4]; clear e4
        simp only [Value.cells, over_all (xs := [Value.int IntKind.i64 0, Value.int IntKind.i64 0, Value.int IntKind.i64 0, Value.int IntKind.i64 0, Value.slice none 0 0]) (vs := [.int .i64 i, .int .i64 (i + 1), .int .i64 (unitsTo line (tabZ tab) i).2, .int .i64 (widthZ (line.getD i 0)), sv]) rfl] at VV
        have KK : Keeps h' hh := (KS.trans K3).step C4 (fun b hb => by omega)
        have OO := Ch.own C4 (OS.keeps K3) (fun b hb e => by have := fS b hb; omega)
        have FF : ∀ b, blkOf sv = some b → h'.size ≤ b := fun b hb => by have := fS b hb; omega
        have hbb : h'.size < hS.size := by omega
        have nb : blkOf sv ≠ some hS.size := fun e => by have := fS _ e; omega
        clear C4 K3 V3 KS z4
        have h9 : ¬ line.getD i 0 = 9 := by intro e; rw [e] at hz; exact absurd hz (by decide)
        have hwz : widthZ (line.getD i 0) = 0 := widthZ_zero.2 hz
        simp (disch := omega) only [wk, wt, wl, ↓reduceIte, Nat.reduceEqDiff, Nat.reduceAdd, Nat.zero_add, not_false_eq_true, not_true_eq_false, t0, t1, t5, t6, t7]
        refine zero_ok.use_pure ?_
        simp (disch := omega) only [wk, wt, wl, ↓reduceIte, Nat.reduceEqDiff, Nat.reduceAdd, Nat.zero_add, not_false_eq_true, not_true_eq_false, t0, t1, t5, t6, t7, hz]
        obtain ⟨h2, e2, VV2, C2, z2⟩ := VV.store1 (P := prog) (t := 3) (v := .int .i64 1) (i := 3) (Ch.wf KK) asz3 (by simp) rfl
        rw [e2]; clear e2
        simp only [List.set_cons_succ, List.set_cons_zero] at VV2
        have KK2 : Keeps h' h2 := KK.step C2 (fun b hb => by omega)
        simp (disch := omega) only [wk, wt, wl, ↓reduceIte, Nat.reduceEqDiff, Nat.reduceAdd, Nat.zero_add, not_false_eq_true, not_true_eq_false, t0, t1, t5, t6, t7]
        have KN := Keeps.new (Ch.wf KK2) 21 (vI [32, line.getD i 0])
        have VV3 := Keeps.var (Ch.wf KK2) KN VV2
        have hlt := VV2.lt (Ch.wf KK2)
        have ON : Own prog h'.size (h2.new 21 (vI [32, line.getD i 0])) 1 (.slice (some ⟨h2.size, 0, none⟩) 2 3) 2 (vI [32, line.getD i 0]) := Own.new (Ch.wf KK2) (e := 21) (Ch.le KK2) asz21 rfl
        obtain ⟨h3, e3, VV4, C3, z3⟩ := VV3.store1 (P := prog) (t := 23) (v := .slice (some ⟨h2.size, 0, none⟩) 2 3) (i := 4) (Ch.wf KN) asz23 (by simp) rfl
        simp only [vI, List.map_cons, List.map_nil] at e3
        rw [e3]; clear e3
        simp only [List.set_cons_succ, List.set_cons_zero] at VV4
        have KK3 : Keeps h' h3 := (KK2.trans KN).step C3 (fun b hb => by omega)
        have OO3 := Ch.own C3 ON (fun b hb e => by simp only [blkOf, Option.some.injEq] at hb; omega)
        have hu : utext (line.getD i 0) (unitsTo line (tabZ tab) i).2 (tabZ tab) = [32, line.getD i 0] := by simp only [utext, h9, hwz, if_false, if_true]
        have hu2 : uwidth (line.getD i 0) (unitsTo line (tabZ tab) i).2 (tabZ tab) = 1 := by simp only [uwidth, h9, hwz, if_false, if_true]
        have OO4 : Own prog h'.size h3 1 (.slice (some ⟨h2.size, 0, none⟩) 2 3) (utext (line.getD i 0) (unitsTo line (tabZ tab) i).2 (tabZ tab)).length (vI (utext (line.getD i 0) (unitsTo line (tabZ tab) i).2 (tabZ tab))) := by rw [hu]; exact OO3
        have FF4 : ∀ b, blkOf (.slice (some ⟨h2.size, 0, none⟩) 2 3) = some b → h'.size ≤ b := fun b hb => by simp only [blkOf, Option.some.injEq] at hb; have := Ch.le KK2; omega
        generalize Value.slice (some ⟨h2.size, 0, none⟩) 2 3 = tv2 at *
        clear KK OO FF VV VV2 VV3 ON OO3 KK2 KN C2 C3
        have KK := KK3
        have OO := OO4
        have FF := FF4
        have VV : Var h3 hS.size [.int .i64 i, .int .i64 (i + 1), .int .i64 (unitsTo line (tabZ tab) i).2, .int .i64 (uwidth (line.getD i 0) (unitsTo line (tabZ tab) i).2 (tabZ tab)), tv2] := by rw [hu2]; exact VV4
        simp (disch := omega) only [wk, wt, wl, ↓reduceIte, Nat.reduceEqDiff, Nat.reduceAdd, Nat.zero_add, not_false_eq_true, not_true_eq_false, t0, t1, t5, t6, t7, h9]
        have Kh4 := K.trans KK
        have hsz2 := Ch.le K
        have L4 := L.keeps KK
        have O4 := OO.base hsz2
        obtain ⟨l5, h5, e5, L5, C5⟩ := UL.push (u := ⟨i, i + 1, (unitsTo line (tabZ tab) i).2, uwidth (line.getD i 0) (unitsTo line (tabZ tab) i).2 (tabZ tab), utext (line.getD i 0) (unitsTo line (tabZ tab) i).2 (tabZ tab)⟩) (Ch.wf Kh4) (Ch.le Kh4) L4 O4 (fun b k bl kl q1 q2 q3 q4 => by
          have f0 := FF b q1
          have f2 := (KK.2.2.2.1 b k f0 q2).resolve_right fun ⟨_, _, e, _⟩ => e
          have f3 := (L.own.1.blk_lt q3).1
          rw [KK.at f3] at q4
          have f5 := (Ch.wf K).2 bl kl q4
          omega) (by omega)
        simp only [cellsU] at e5
        have V5 := Ch.var (Ch.wf Kh4) C5 VV (fun hd => by
          have := (L.own.1.blk_lt hd.1).1
          omega)
        have V5' := V5.load1 (P := prog) (t := 3) underlying3 rfl (i := 3)
        simp only [List.getElem?_cons_succ, List.getElem?_cons_zero] at V5'
        simp (disch := omega) only [wk, wt, wl, ↓reduceIte, Nat.reduceEqDiff, Nat.reduceAdd, Nat.zero_add, not_false_eq_true, not_true_eq_false, t0, t1, t5, t6, t7, t11, VV.loadA (P := prog) (t := 61) underlying61 rfl asz61, buildA5 (P := prog) (h := _) underlying44 asz61 azero61 rfl (v0 := .int .i64 i) (v1 := .int .i64 (i + 1)) (v2 := .int .i64 (unitsTo line (tabZ tab) i).2) (v3 := .int .i64 (uwidth (line.getD i 0) (unitsTo line (tabZ tab) i).2 (tabZ tab))) (v4 := tv2) rfl rfl rfl rfl OO.1.one, e5, V5', IntWalk.i64_in, intOf_int]
        have hs1 : unitsTo line (tabZ tab) (i + 1) = _ := ustep_push (us := (unitsTo line (tabZ tab) i).1) (col := (unitsTo line (tabZ tab) i).2) hpu
        refine ⟨⟨Kh4.step C5 (fun b hb => hb.2), i + 1, l5, _, by simp, by omega, ?_, rfl, L5, ?_⟩, by omega⟩
        · rw [hs1]
        · rw [hs1, List.map_append, hus]; rfl
    · have hpu : (unitsTo line (tabZ tab) i).1 = [] ∨ ¬ zeroB (line.getD i 0) = true ∨ ∃ u, (unitsTo line (tabZ tab) i).1.getLast? = some u ∧ joins line i u = false := .inr (.inl (by rw [hz]; simp))
      simp (disch := omega) only [wk, wt, wl, ↓reduceIte, Nat.reduceEqDiff, Nat.reduceAdd, Nat.zero_add, not_false_eq_true, not_true_eq_false, t0, t1, t5, t6, t7, hz, IntWalk.i64_in]
      refine refWidth_ok.use_pure ?_
      simp (disch := omega) only [wk, wt, wl, ↓reduceIte, Nat.reduceEqDiff, Nat.reduceAdd, Nat.zero_add, not_false_eq_true, not_true_eq_false, t0, t1, t5, t6, t7]
      refine (refShow_ok (hline i)).use_pure ?_
      have KS := Keeps.new (Ch.wf K) 21 ((showL (line.getD i 0)).map (Value.int .i32))
      have OS : Own prog h'.size (h'.new 21 ((showL (line.getD i 0)).map (Value.int .i32))) 1 (.slice (some ⟨h'.size, 0, none⟩) (showL (line.getD i 0)).length ((showL (line.getD i 0)).length + 1)) (showL (line.getD i 0)).length (vI (showL (line.getD i 0))) := Own.new (Ch.wf K) (e := 21) (Nat.le_refl _) asz21 (by simp [vI])
      simp (disch := omega) only [wk, wt, wl, ↓reduceIte, Nat.reduceEqDiff, Nat.reduceAdd, Nat.zero_add, not_false_eq_true, not_true_eq_false, t0, t1, t5, t6, t7, build_unit5 (h := h')]
      have fS : ∀ b, blkOf (.slice (some ⟨h'.size, 0, none⟩) (showL (line.getD i 0)).length ((showL (line.getD i 0)).length + 1)) = some b → b = h'.size := fun b hb => by simp only [blkOf, Option.some.injEq] at hb; exact hb.symm
      generalize hsv : Value.slice (some ⟨h'.size, 0, none⟩) (showL (line.getD i 0)).length ((showL (line.getD i 0)).length + 1) = sv at *
      have zS : (h'.new 21 ((showL (line.getD i 0)).map (Value.int .i32))).size = h'.size + 1 := rfl
      generalize h'.new 21 ((showL (line.getD i 0)).map (Value.int .i32)) = hS at *
      have K3 := Keeps.new (Ch.wf KS) 61 [Value.int IntKind.i64 0, Value.int IntKind.i64 0, Value.int IntKind.i64 0, Value.int IntKind.i64 0, Value.slice none 0 0]
      have V3 := Var.new (e := 61) (Ch.wf KS) (cs := [Value.int IntKind.i64 0, Value.int IntKind.i64 0, Value.int IntKind.i64 0, Value.int IntKind.i64 0, Value.slice none 0 0])
      obtain ⟨hh, e4, VV, C4, z4⟩ := V3.store (P := prog) (t := 61) (v := .agg #[.int .i64 i, .int .i64 (i + 1), .int .i64 (unitsTo line (tabZ tab) i).2, .int .i64 (widthZ (line.getD i 0)), sv]) (i := 0) (Ch.wf K3) asz61 (by simp [Value.cells]) (by simp [Value.cells, one_int, OS.1.one])
      rw [e4]; clear e4
      simp only [Value.cells, over_all (xs := [Value.int IntKind.i64 0, Value.int IntKind.i64 0, Value.int IntKind.i64 0, Value.int IntKind.i64 0, Value.slice none 0 0]) (vs := [.int .i64 i, .int .i64 (i + 1), .int .i64 (unitsTo line (tabZ tab) i).2, .int .i64 (widthZ (line.getD i 0)), sv]) rfl] at VV
      have KK : Keeps h' hh := (KS.trans K3).step C4 (fun b hb => by omega)
      have OO := Ch.own C4 (OS.keeps K3) (fun b hb e => by have := fS b hb; omega)
      have FF : ∀ b, blkOf sv = some b → h'.size ≤ b := fun b hb => by have := fS b hb; omega
      have hbb : h'.size < hS.size := by omega
      have nb : blkOf sv ≠ some hS.size := fun e => by have := fS _ e; omega
      clear C4 K3 V3 KS z4
      have hwz : ¬ widthZ (line.getD i 0) = 0 := fun e => by have := widthZ_zero.1 e; rw [hz] at this; cases this
      simp (disch := omega) only [wk, wt, wl, ↓reduceIte, Nat.reduceEqDiff, Nat.reduceAdd, Nat.zero_add, not_false_eq_true, not_true_eq_false, t0, t1, t5, t6, t7]
      refine zero_ok.use_pure ?_
      simp (disch := omega) only [wk, wt, wl, ↓reduceIte, Nat.reduceEqDiff, Nat.reduceAdd, Nat.zero_add, not_false_eq_true, not_true_eq_false, t0, t1, t5, t6, t7, hz]
      refine condK_dec (fun h9 => ?_) (fun h9 => ?_)
      · have hm : tabZ tab ≠ 0 := by have := tabZ_range tab; omega
        have hm0 : 0 ≤ (unitsTo line (tabZ tab) i).2 % tabZ tab := Int.emod_nonneg _ hm
        have hm1 : (unitsTo line (tabZ tab) i).2 % tabZ tab < tabZ tab := Int.emod_lt_of_pos _ (by have := tabZ_range tab; omega)
        have hm2 := tabZ_range tab
        simp (disch := omega) only [wk, wt, wl, ↓reduceIte, Nat.reduceEqDiff, Nat.reduceAdd, Nat.zero_add, not_false_eq_true, not_true_eq_false, t0, t1, t5, t6, t7, abin_rem (P := prog) (t := 3) (k := .i64) (x := (unitsTo line (tabZ tab) i).2) (y := tabZ tab) hm, Int.tmod_eq_emod_of_nonneg, IntWalk.i64_in]
        have hu : utext (line.getD i 0) (unitsTo line (tabZ tab) i).2 (tabZ tab) = List.replicate (tabZ tab - (unitsTo line (tabZ tab) i).2 % tabZ tab).toNat 32 := by simp only [utext, h9, if_true]
        have hu2 : uwidth (line.getD i 0) (unitsTo line (tabZ tab) i).2 (tabZ tab) = tabZ tab - (unitsTo line (tabZ tab) i).2 % tabZ tab := by simp only [uwidth, h9, if_true]
        obtain ⟨h2, e2, VV2, C2, z2⟩ := VV.store1 (P := prog) (t := 3) (v := .int .i64 (tabZ tab - (unitsTo line (tabZ tab) i).2 % tabZ tab)) (i := 3) (Ch.wf KK) asz3 (by simp) rfl
        rw [e2]; clear e2
        simp only [List.set_cons_succ, List.set_cons_zero] at VV2
        have KK2 : Keeps h' h2 := KK.step C2 (fun b hb => by omega)
        obtain ⟨h3, e3, VV3, C3, z3⟩ := VV2.store1 (P := prog) (t := 23) (v := .slice none 0 0) (i := 4) (Ch.wf KK2) asz23 (by simp) rfl
        simp (disch := omega) only [wk, wt, wl, ↓reduceIte, Nat.reduceEqDiff, Nat.reduceAdd, Nat.zero_add, not_false_eq_true, not_true_eq_false, t0, t1, t5, t6, t7]
        rw [e3]; clear e3
        simp only [List.set_cons_succ, List.set_cons_zero] at VV3
        have KK3 : Keeps h' h3 := KK2.step C3 (fun b hb => by omega)
        simp (disch := omega) only [wk, wt, wl, ↓reduceIte, Nat.reduceEqDiff, Nat.reduceAdd, Nat.zero_add, not_false_eq_true, not_true_eq_false, t0, t1, t5, t6, t7]
        clear C2 C3 VV VV2 KK KK2 OO FF z2 z3
        refine W_loop (fun tm hh => Keeps h' hh ∧ tm 0 = a ∧ tm 1 = .int .i64 (tabZ tab) ∧ tm 5 = l ∧ tm 6 = .int .i64 (unitsTo line (tabZ tab) i).2 ∧ tm 7 = .int .i64 i ∧ tm 11 = .pointer (some ⟨hS.size, 0, none⟩) ∧ ∃ (j : Nat) (tv : Value), tm 12 = .int .i64 j ∧ (j : Int) ≤ tabZ tab - (unitsTo line (tabZ tab) i).2 % tabZ tab ∧
          Var hh hS.size [.int .i64 i, .int .i64 (i + 1), .int .i64 (unitsTo line (tabZ tab) i).2, .int .i64 (tabZ tab - (unitsTo line (tabZ tab) i).2 % tabZ tab), tv] ∧
          (∀ b, blkOf tv = some b → h'.size ≤ b ∧ b ≠ hS.size) ∧ Own prog h'.size hh 1 tv j (vI (List.replicate j 32)))
          (fun tm _ => (tabZ tab - (unitsTo line (tabZ tab) i).2 % tabZ tab - intOf (tm 12)).toNat) ⟨KK3, (by first | rfl | (simp only [wk, wt, wl, ↓reduceIte, Nat.reduceEqDiff, Nat.reduceAdd, Nat.zero_add, not_false_eq_true, not_true_eq_false]; done) | (simp only [wk, wt, wl, ↓reduceIte, Nat.reduceEqDiff, Nat.reduceAdd, Nat.zero_add, not_false_eq_true, not_true_eq_false]; rfl) | (simp only [wk, wt, wl, ↓reduceIte, Nat.reduceEqDiff, Nat.reduceAdd, Nat.zero_add, not_false_eq_true, not_true_eq_false, t0]; done) | (simp only [wk, wt, wl, ↓reduceIte, Nat.reduceEqDiff, Nat.reduceAdd, Nat.zero_add, not_false_eq_true, not_true_eq_false, t0]; rfl)), (by first | rfl | (simp only [wk, wt, wl, ↓reduceIte, Nat.reduceEqDiff, Nat.reduceAdd, Nat.zero_add, not_false_eq_true, not_true_eq_false]; done) | (simp only [wk, wt, wl, ↓reduceIte, Nat.reduceEqDiff, Nat.reduceAdd, Nat.zero_add, not_false_eq_true, not_true_eq_false]; rfl) | (simp only [wk, wt, wl, ↓reduceIte, Nat.reduceEqDiff, Nat.reduceAdd, Nat.zero_add, not_false_eq_true, not_true_eq_false, t1]; done) | (simp only [wk, wt, wl, ↓reduceIte, Nat.reduceEqDiff, Nat.reduceAdd, Nat.zero_add, not_false_eq_true, not_true_eq_false, t1]; rfl)), (by first | rfl | (simp only [wk, wt, wl, ↓reduceIte, Nat.reduceEqDiff, Nat.reduceAdd, Nat.zero_add, not_false_eq_true, not_true_eq_false]; done) | (simp only [wk, wt, wl, ↓reduceIte, Nat.reduceEqDiff, Nat.reduceAdd, Nat.zero_add, not_false_eq_true, not_true_eq_false]; rfl) | (simp only [wk, wt, wl, ↓reduceIte, Nat.reduceEqDiff, Nat.reduceAdd, Nat.zero_add, not_false_eq_true, not_true_eq_false, t5]; done) | (simp only [wk, wt, wl, ↓reduceIte, Nat.reduceEqDiff, Nat.reduceAdd, Nat.zero_add, not_false_eq_true, not_true_eq_false, t5]; rfl)), (by first | rfl | (simp only [wk, wt, wl, ↓reduceIte, Nat.reduceEqDiff, Nat.reduceAdd, Nat.zero_add, not_false_eq_true, not_true_eq_false]; done) | (simp only [wk, wt, wl, ↓reduceIte, Nat.reduceEqDiff, Nat.reduceAdd, Nat.zero_add, not_false_eq_true, not_true_eq_false]; rfl) | (simp only [wk, wt, wl, ↓reduceIte, Nat.reduceEqDiff, Nat.reduceAdd, Nat.zero_add, not_false_eq_true, not_true_eq_false, t6]; done) | (simp only [wk, wt, wl, ↓reduceIte, Nat.reduceEqDiff, Nat.reduceAdd, Nat.zero_add, not_false_eq_true, not_true_eq_false, t6]; rfl)), (by first | rfl | (simp only [wk, wt, wl, ↓reduceIte, Nat.reduceEqDiff, Nat.reduceAdd, Nat.zero_add, not_false_eq_true, not_true_eq_false]; done) | (simp only [wk, wt, wl, ↓reduceIte, Nat.reduceEqDiff, Nat.reduceAdd, Nat.zero_add, not_false_eq_true, not_true_eq_false]; rfl) | (simp only [wk, wt, wl, ↓reduceIte, Nat.reduceEqDiff, Nat.reduceAdd, Nat.zero_add, not_false_eq_true, not_true_eq_false, t7]; done) | (simp only [wk, wt, wl, ↓reduceIte, Nat.reduceEqDiff, Nat.reduceAdd, Nat.zero_add, not_false_eq_true, not_true_eq_false, t7]; rfl)), (by first | rfl | (simp only [wk, wt, wl, ↓reduceIte, Nat.reduceEqDiff, Nat.reduceAdd, Nat.zero_add, not_false_eq_true, not_true_eq_false]; done) | (simp only [wk, wt, wl, ↓reduceIte, Nat.reduceEqDiff, Nat.reduceAdd, Nat.zero_add, not_false_eq_true, not_true_eq_false]; rfl)), 0, .slice none 0 0, (by first | rfl | (simp only [wk, wt, wl, ↓reduceIte, Nat.reduceEqDiff, Nat.reduceAdd, Nat.zero_add, not_false_eq_true, not_true_eq_false]; done) | (simp only [wk, wt, wl, ↓reduceIte, Nat.reduceEqDiff, Nat.reduceAdd, Nat.zero_add, not_false_eq_true, not_true_eq_false]; rfl)), by omega, VV3, by simp [blkOf], Own.nil0⟩ ?_
        clear KK3 VV3 t0 t1 t5 t6 t7
        rintro tm hh ⟨KK, t0, t1, t5, t6, t7, t11, j, tv2, t12, hj, VV, FB, OO⟩
        simp (disch := omega) only [wk, wt, wl, ↓reduceIte, Nat.reduceEqDiff, Nat.reduceAdd, Nat.zero_add, not_false_eq_true, not_true_eq_false, t0, t1, t5, t6, t7, t11, t12, VV.load1 (P := prog) (t := 3) underlying3 rfl (i := 3)]
        refine condK_dec (fun hd2 => ?_) (fun hd2 => ?_)
        · simp (disch := omega) only [wk, wt, wl, ↓reduceIte, Nat.reduceEqDiff, Nat.reduceAdd, Nat.zero_add, not_false_eq_true, not_true_eq_false, t0, t1, t5, t6, t7, t11, t12, VV.load1 (P := prog) (t := 23) underlying23 rfl (i := 4)]
          obtain ⟨tv', h4, e4, O4, C4, R4, ev4, k4, f4, f5⟩ := Own.append1 (P := prog) (Ch.wf KK) (Ch.le KK) OO underlying23 elem21 fits21 (by decide) (by decide) (xs := [.int .i32 32]) rfl (by omega)
          rw [e4]; clear e4
          have VV4 := Ch.var (Ch.wf KK) C4 VV (fun e => (FB _ e.1).2 rfl)
          have KK4 : Keeps h' h4 := KK.step C4 (fun b hb => hb.2)
          obtain ⟨h5, e5, VV5, C5, z5⟩ := VV4.store1 (P := prog) (t := 23) (v := tv') (i := 4) (Ch.wf KK4) asz23 (by simp) (by rw [ev4]; rfl)
          simp (disch := omega) only [wk, wt, wl, ↓reduceIte, Nat.reduceEqDiff, Nat.reduceAdd, Nat.zero_add, not_false_eq_true, not_true_eq_false, t0, t1, t5, t6, t7, t11, t12]
          rw [e5]; clear e5
          have hlt := VV.lt (Ch.wf KK)
          simp only [List.set_cons_succ, List.set_cons_zero] at VV5
          simp (disch := omega) only [wk, wt, wl, ↓reduceIte, Nat.reduceEqDiff, Nat.reduceAdd, Nat.zero_add, not_false_eq_true, not_true_eq_false, t0, t1, t5, t6, t7, t11, t12, IntWalk.i64_in, intOf_int]
          refine ⟨⟨KK4.step C5 (fun b hb => by omega), j + 1, tv', by simp, by omega, VV5, fun b hb => ?_, ?_⟩, by omega⟩
          · rw [ev4] at hb; simp only [blkOf, Option.some.injEq] at hb
            have := Ch.le KK
            omega
          · rw [show vI (List.replicate (j + 1) 32) = vI (List.replicate j 32) ++ [.int .i32 32] by simp [vI, List.replicate_succ']]
            exact Ch.own C5 O4 (fun b hb e => by rw [ev4] at hb; simp only [blkOf, Option.some.injEq] at hb; omega)
        · have hj' : (j : Int) = tabZ tab - (unitsTo line (tabZ tab) i).2 % tabZ tab := by omega
          have hu3 : utext (line.getD i 0) (unitsTo line (tabZ tab) i).2 (tabZ tab) = List.replicate j 32 := by rw [hu, ← hj']; simp
          have OO' := OO
          have VV' := VV
          clear OO VV
          have OO : Own prog h'.size hh 1 tv2 (utext (line.getD i 0) (unitsTo line (tabZ tab) i).2 (tabZ tab)).length (vI (utext (line.getD i 0) (unitsTo line (tabZ tab) i).2 (tabZ tab))) := by rw [hu3, List.length_replicate]; exact OO'
          have VV : Var hh hS.size [.int .i64 i, .int .i64 (i + 1), .int .i64 (unitsTo line (tabZ tab) i).2, .int .i64 (uwidth (line.getD i 0) (unitsTo line (tabZ tab) i).2 (tabZ tab)), tv2] := by rw [hu2]; exact VV'
          have FF : ∀ b, blkOf tv2 = some b → h'.size ≤ b := fun b hb => (FB b hb).1
          simp (disch := omega) only [wk, wt, wl, ↓reduceIte, Nat.reduceEqDiff, Nat.reduceAdd, Nat.zero_add, not_false_eq_true, not_true_eq_false, t0, t1, t5, t6, t7, t11]
          have Kh4 := K.trans KK
          have hsz2 := Ch.le K
          have L4 := L.keeps KK
          have O4 := OO.base hsz2
          obtain ⟨l5, h5, e5, L5, C5⟩ := UL.push (u := ⟨i, i + 1, (unitsTo line (tabZ tab) i).2, uwidth (line.getD i 0) (unitsTo line (tabZ tab) i).2 (tabZ tab), utext (line.getD i 0) (unitsTo line (tabZ tab) i).2 (tabZ tab)⟩) (Ch.wf Kh4) (Ch.le Kh4) L4 O4 (fun b k bl kl q1 q2 q3 q4 => by
            have f0 := FF b q1
            have f2 := (KK.2.2.2.1 b k f0 q2).resolve_right fun ⟨_, _, e, _⟩ => e
            have f3 := (L.own.1.blk_lt q3).1
            rw [KK.at f3] at q4
            have f5 := (Ch.wf K).2 bl kl q4
            omega) (by omega)
          simp only [cellsU] at e5
          have V5 := Ch.var (Ch.wf Kh4) C5 VV (fun hd => by
            have := (L.own.1.blk_lt hd.1).1
            omega)
          have V5' := V5.load1 (P := prog) (t := 3) underlying3 rfl (i := 3)
          simp only [List.getElem?_cons_succ, List.getElem?_cons_zero] at V5'
          simp (disch := omega) only [wk, wt, wl, ↓reduceIte, Nat.reduceEqDiff, Nat.reduceAdd, Nat.zero_add, not_false_eq_true, not_true_eq_false, t0, t1, t5, t6, t7, t11, VV.loadA (P := prog) (t := 61) underlying61 rfl asz61, buildA5 (P := prog) (h := _) underlying44 asz61 azero61 rfl (v0 := .int .i64 i) (v1 := .int .i64 (i + 1)) (v2 := .int .i64 (unitsTo line (tabZ tab) i).2) (v3 := .int .i64 (uwidth (line.getD i 0) (unitsTo line (tabZ tab) i).2 (tabZ tab))) (v4 := tv2) rfl rfl rfl rfl OO.1.one, e5, V5', IntWalk.i64_in, intOf_int]
          have hs1 : unitsTo line (tabZ tab) (i + 1) = _ := ustep_push (us := (unitsTo line (tabZ tab) i).1) (col := (unitsTo line (tabZ tab) i).2) hpu
          refine ⟨⟨Kh4.step C5 (fun b hb => hb.2), i + 1, l5, _, by simp, by omega, ?_, rfl, L5, ?_⟩, by omega⟩
          · rw [hs1]
          · rw [hs1, List.map_append, hus]; rfl
      · have hu : utext (line.getD i 0) (unitsTo line (tabZ tab) i).2 (tabZ tab) = showL (line.getD i 0) := by simp only [utext, h9, hwz, if_false]
        have hu2 : uwidth (line.getD i 0) (unitsTo line (tabZ tab) i).2 (tabZ tab) = widthZ (line.getD i 0) := by simp only [uwidth, h9, hwz, if_false]
        have OO' := OO
        have VV' := VV
        clear OO VV
        have OO : Own prog h'.size hh 1 sv (utext (line.getD i 0) (unitsTo line (tabZ tab) i).2 (tabZ tab)).length (vI (utext (line.getD i 0) (unitsTo line (tabZ tab) i).2 (tabZ tab))) := by rw [hu]; exact OO'
        have VV : Var hh hS.size [.int .i64 i, .int .i64 (i + 1), .int .i64 (unitsTo line (tabZ tab) i).2, .int .i64 (uwidth (line.getD i 0) (unitsTo line (tabZ tab) i).2 (tabZ tab)), sv] := by rw [hu2]; exact VV'
        clear OO' VV'
        generalize sv = tv2 at *
        have t11 : True := trivial
        simp (disch := omega) only [wk, wt, wl, ↓reduceIte, Nat.reduceEqDiff, Nat.reduceAdd, Nat.zero_add, not_false_eq_true, not_true_eq_false, t0, t1, t5, t6, t7]
        have Kh4 := K.trans KK
        have hsz2 := Ch.le K
        have L4 := L.keeps KK
        have O4 := OO.base hsz2
        obtain ⟨l5, h5, e5, L5, C5⟩ := UL.push (u := ⟨i, i + 1, (unitsTo line (tabZ tab) i).2, uwidth (line.getD i 0) (unitsTo line (tabZ tab) i).2 (tabZ tab), utext (line.getD i 0) (unitsTo line (tabZ tab) i).2 (tabZ tab)⟩) (Ch.wf Kh4) (Ch.le Kh4) L4 O4 (fun b k bl kl q1 q2 q3 q4 => by
          have f0 := FF b q1
          have f2 := (KK.2.2.2.1 b k f0 q2).resolve_right fun ⟨_, _, e, _⟩ => e
          have f3 := (L.own.1.blk_lt q3).1
          rw [KK.at f3] at q4
          have f5 := (Ch.wf K).2 bl kl q4
          omega) (by omega)
        simp only [cellsU] at e5
        have V5 := Ch.var (Ch.wf Kh4) C5 VV (fun hd => by
          have := (L.own.1.blk_lt hd.1).1
          omega)
        have V5' := V5.load1 (P := prog) (t := 3) underlying3 rfl (i := 3)
        simp only [List.getElem?_cons_succ, List.getElem?_cons_zero] at V5'
        simp (disch := omega) only [wk, wt, wl, ↓reduceIte, Nat.reduceEqDiff, Nat.reduceAdd, Nat.zero_add, not_false_eq_true, not_true_eq_false, t0, t1, t5, t6, t7, t11, VV.loadA (P := prog) (t := 61) underlying61 rfl asz61, buildA5 (P := prog) (h := _) underlying44 asz61 azero61 rfl (v0 := .int .i64 i) (v1 := .int .i64 (i + 1)) (v2 := .int .i64 (unitsTo line (tabZ tab) i).2) (v3 := .int .i64 (uwidth (line.getD i 0) (unitsTo line (tabZ tab) i).2 (tabZ tab))) (v4 := tv2) rfl rfl rfl rfl OO.1.one, e5, V5', IntWalk.i64_in, intOf_int]
        have hs1 : unitsTo line (tabZ tab) (i + 1) = _ := ustep_push (us := (unitsTo line (tabZ tab) i).1) (col := (unitsTo line (tabZ tab) i).2) hpu
        refine ⟨⟨Kh4.step C5 (fun b hb => hb.2), i + 1, l5, _, by simp, by omega, ?_, rfl, L5, ?_⟩, by omega⟩
        · rw [hs1]
        · rw [hs1, List.map_append, hus]; rfl
  · simp only [wk, wt, wl, ↓reduceIte, Nat.reduceEqDiff, Nat.reduceAdd, Nat.zero_add, not_false_eq_true, not_true_eq_false, t0, t1, t5, t6, t7]
    have hil : i = line.length := by omega
    exact ⟨uv, by rw [hus, hil]; rfl, L.ur, K⟩
end Go.Proofs.YtcgajolmjjeibaaDoor.Am
end
section
/- The document's Col, At and Columns: contracts, by walks. -/
set_option linter.unusedSimpArgs false
set_option linter.unusedVariables false
set_option maxHeartbeats 4000000
set_option maxRecDepth 20000
namespace Go.Proofs.YtcgajolmjjeibaaDoor.Am
open Go Go.RowKit Go.Proofs.Tryd
def endOf (us : List U) (e : Int) : Int := match us.getLast? with | some u => u.col + u.wd | none => e
theorem endOf_cons {u : U} {us : List U} {e : Int} : endOf (u :: us) e = endOf us (u.col + u.wd) := by
  cases us with
  | nil => rfl
  | cons v us => simp [endOf, List.getLast?_cons]
theorem colOf_at {i : Int} {u : U} : ∀ {us : List U} {j : Nat} {e : Int}, us[j]? = some u → (∀ k v, k < j → us[k]? = some v → ¬ i < v.to) → i < u.to → colOf us i e = (u.col, u.wd)
  | [], j, e, h, _, _ => by simp at h
  | v :: us, 0, e, h, _, hc => by simp at h; subst h; simp [colOf, hc]
  | v :: us, j + 1, e, h, hk, hc => by
    have h0 := hk 0 v (by omega) rfl
    simp only [colOf, h0, if_false]
    exact colOf_at (by simpa using h) (fun k w hlt hw => hk (k + 1) w (by omega) (by simpa using hw)) hc
theorem colOf_none {i : Int} : ∀ {us : List U} {e : Int}, (∀ v, v ∈ us → ¬ i < v.to) → colOf us i e = (endOf us e, 1)
  | [], e, _ => rfl
  | v :: us, e, h => by
    have h0 := h v (by simp)
    simp only [colOf, h0, if_false]
    rw [endOf_cons]
    exact colOf_none fun w hw => h w (by simp [hw])
theorem atOf_at {c n : Int} {u : U} : ∀ {us : List U} {j : Nat}, us[j]? = some u → (∀ k v, k < j → us[k]? = some v → ¬ c < v.col + v.wd) → c < u.col + u.wd → atOf us c n = u.fr
  | [], j, h, _, _ => by simp at h
  | v :: us, 0, h, _, hc => by simp at h; subst h; simp [atOf, hc]
  | v :: us, j + 1, h, hk, hc => by
    have h0 := hk 0 v (by omega) rfl
    simp only [atOf, h0, if_false]
    exact atOf_at (by simpa using h) (fun k w hlt hw => hk (k + 1) w (by omega) (by simpa using hw)) hc
theorem atOf_none {c n : Int} : ∀ {us : List U}, (∀ v, v ∈ us → ¬ c < v.col + v.wd) → atOf us c n = n
  | [], _ => rfl
  | v :: us, h => by
    have h0 := h v (by simp)
    simp only [atOf, h0, if_false]
    exact atOf_none fun w hw => h w (by simp [hw])
theorem colOf_all {line : List Int} {tab : Int} : colOf (unitsL line tab) line.length 0 = (endOf (unitsL line tab) 0, 1) :=
  colOf_none fun v hv => by have := (unitsL_ok (line := line) (tab := tab)).each v hv; omega
theorem refColumns_ok {a : Value} {line : List Int} {tab : Int} {h : Heap} (ha : RdI prog h .i32 a line) (hline : ∀ j, isR (line.getD j 0)) (hlen : line.length ≤ 10000) :
    ACalls prog 17 #[a, .int .i64 tab] h (fun v h' => v = .int .i64 (endOf (unitsL line tab) 0) ∧ Keeps h h') := by
  refine acalls_of_W func17 rfl (by kernel_rfl) (by kernel_rfl) (by simp [ntmps17]) ?_
  simp only [wk, wt, wl, ↓reduceIte, Nat.reduceEqDiff, Nat.reduceAdd, Nat.zero_add, not_false_eq_true, not_true_eq_false]
  refine (refUnits_ok ha hline hlen).use ?_
  rintro l h2 ⟨uv, hu, R, K⟩
  have hul := (unitsL_ok (line := line) (tab := tab)).len
  have hlen' : uv.length = (unitsL line tab).length := by rw [← hu]; simp
  simp only [wk, wt, wl, ↓reduceIte, Nat.reduceEqDiff, Nat.reduceAdd, Nat.zero_add, not_false_eq_true, not_true_eq_false, Rd.len R.rd underlying44]
  refine condK_dec (fun hc => ?_) (fun hc => ?_)
  · simp only [wk, wt, wl, ↓reduceIte, Nat.reduceEqDiff, Nat.reduceAdd, Nat.zero_add, not_false_eq_true, not_true_eq_false]
    have : unitsL line tab = [] := List.eq_nil_of_length_eq_zero (by omega)
    rw [this]
    exact ⟨rfl, K⟩
  · have hne : uv ≠ [] := by intro e; subst e; simp at hc
    obtain ⟨pre, ⟨u, tv⟩, rfl⟩ : ∃ pre x, uv = pre ++ [x] := ⟨uv.dropLast, uv.getLast hne, (List.dropLast_concat_getLast hne).symm⟩
    have hlast : (unitsL line tab).getLast? = some u := by rw [← hu]; simp
    have hb := unit_bounds hlen (List.mem_of_getLast? hlast)
    obtain ⟨F0, F1, F2, F3, F4⟩ := R.field (i := pre.length) (u := u) (tv := tv) (by simp)
    have hll : ((pre ++ [(u, tv)]).length : Int) = (pre.length : Int) + 1 := by simp
    have hp : pre.length + 1 = (unitsL line tab).length := by rw [← hlen']; simp
    have IX : aindexAddr prog 44 l (.int .i64 ((pre.length : Int) + 1 - 1)) = some (.pointer (some (eltA l 5 pre.length))) := by
      have := Rd.index R.rd underlying44 asz61 (q := .i64) (i := (pre.length : Int) + 1 - 1) (by omega) (by simp only [List.length_append, List.length_singleton]; omega)
      rw [show ((pre.length : Int) + 1 - 1).toNat = pre.length by omega] at this; exact this
    simp only [wk, wt, wl, ↓reduceIte, Nat.reduceEqDiff, Nat.reduceAdd, Nat.zero_add, not_false_eq_true, not_true_eq_false]
    refine adraw_order [(0, false), (1, false), (2, false), (3, false), (4, false), (5, false), (6, false), (7, false), (8, false), (9, false), (10, false), (11, false), (12, false), (13, false), (14, false), (15, false)] mixed (by kernel_rfl) (by kernel_rfl) (by kernel_rfl) (by with_reducible repeat (first | exact PF_retK | refine PF_thenK ?_ | refine PF_blockK ?_)) ?_
    simp (disch := omega) only [wk, wt, wl, ↓reduceIte, Nat.reduceEqDiff, Nat.reduceAdd, Nat.zero_add, not_false_eq_true, not_true_eq_false, Rd.len R.rd underlying44, hll, IX, F2, F3, IntWalk.i64_in]
    refine ⟨?_, K⟩
    rw [show endOf (unitsL line tab) 0 = u.col + u.wd by simp only [endOf, hlast]]
end Go.Proofs.YtcgajolmjjeibaaDoor.Am
end
section
/- Plain laws of units: tabs, beginnings, parts; no program in sight. -/
set_option linter.unusedSimpArgs false
set_option linter.unusedVariables false
set_option maxHeartbeats 1000000
set_option maxRecDepth 20000
namespace Go.Proofs.YtcgajolmjjeibaaDoor.Am
open Go Go.RowKit Go.Proofs.Tryd
/-- A step makes a new unit, or lets a mark join the last one. -/
theorem ustep_cases {line : List Int} {tab : Int} {n : Nat} {r : Int} {us : List U} {col : Int} {Q : List U × Int → Prop}
    (hg : Q (us ++ [⟨n, n + 1, col, uwidth r col tab, utext r col tab⟩], col + uwidth r col tab))
    (hj : ∀ pre u, us = pre ++ [u] → zeroB r = true → joins line n u = true → Q (pre ++ [{ u with to := n + 1, tx := u.tx ++ [r] }], col)) : Q (ustep line tab n r (us, col)) := by
  unfold ustep
  simp only
  split
  · rename_i u hu
    split
    · rename_i hc
      have hne : us ≠ [] := by intro e; subst e; simp at hu
      obtain ⟨pre, rfl⟩ : ∃ pre, us = pre ++ [u] := ⟨us.dropLast, by
        have := List.dropLast_concat_getLast hne
        rw [List.getLast?_eq_some_getLast hne] at hu
        cases hu; exact this.symm⟩
      simpa using hj pre u rfl hc.1 hc.2
    · exact hg
  · exact hg
/-- Tabs. -/
def TabOk (line : List Int) (tab : Int) (us : List U) : Prop := ∀ u, u ∈ us → line.getD u.fr.toNat 0 = 9 → (u.col + u.wd) % tab = 0 ∧ u.wd ≤ tab ∧ u.to = u.fr + 1
theorem TabOk.to {line : List Int} {tab : Int} (ht : 1 ≤ tab ∧ tab ≤ 64) : ∀ n, TabOk line tab (unitsTo line tab n).1
  | 0 => fun u hu => by simp [unitsTo] at hu
  | n + 1 => by
    have ih := TabOk.to (line := line) ht n
    have ok := unitsTo_ok (line := line) ht n
    simp only [unitsTo]
    revert ih ok
    generalize unitsTo line tab n = st
    obtain ⟨us, col⟩ := st
    intro ih ok
    refine ustep_cases (Q := fun st => TabOk line tab st.1) ?_ ?_
    · intro u hu h9
      rcases List.mem_append.1 hu with h | h
      · exact ih u h h9
      · simp only [List.mem_singleton] at h; subst h
        simp only [Int.toNat_natCast] at h9
        have hm0 : 0 ≤ col % tab := Int.emod_nonneg _ (by omega)
        simp only [uwidth, h9, if_true]
        refine ⟨?_, by omega, trivial⟩
        have := Int.emod_add_mul_ediv col tab
        rw [show col + (tab - col % tab) = tab * (col / tab + 1) by rw [Int.mul_add]; omega]
        exact Int.mul_emod_right _ _
    · intro pre u e hz hj v hv h9
      subst e
      rcases List.mem_append.1 hv with h | h
      · exact ih v (by simp [h]) h9
      · simp only [List.mem_singleton] at h; subst h
        simp only [joins, Bool.and_eq_true, decide_eq_true_eq] at hj
        exact absurd h9 hj.1
theorem unitsL_tab {line : List Int} {tab : Int} (ht : 1 ≤ tab ∧ tab ≤ 64) {u : U} (hu : u ∈ unitsL line tab) (h9 : line.getD u.fr.toNat 0 = 9) : (u.col + u.wd) % tab = 0 ∧ u.wd ≤ tab ∧ u.to = u.fr + 1 := by
  have e : tabZ tab = tab := by unfold tabZ; rw [if_neg (by omega)]
  unfold unitsL at hu
  rw [e] at hu
  exact TabOk.to ht _ u hu h9
/-- Beginnings. -/
theorem unitsTo_front {line more : List Int} {tab : Int} (ht : 1 ≤ tab ∧ tab ≤ 64) : ∀ n, n ≤ line.length → unitsTo (line ++ more) tab n = unitsTo line tab n
  | 0, _ => rfl
  | n + 1, h => by
    have ih := unitsTo_front (line := line) (more := more) ht n (by omega)
    have ok := unitsTo_ok (line := line) ht n
    simp only [unitsTo, ih]
    revert ok
    generalize unitsTo line tab n = st
    obtain ⟨us, col⟩ := st
    intro ok
    have g : ∀ k, k < line.length → (line ++ more).getD k 0 = line.getD k 0 := fun k hk => by
      rw [List.getD_eq_getElem?_getD, List.getD_eq_getElem?_getD, List.getElem?_append_left hk]
    rw [g n (by omega)]
    unfold ustep
    simp only
    split
    · rename_i u hu
      have hb := ok.each u (List.mem_of_getLast? hu)
      have : joins (line ++ more) n u = joins line n u := by
        unfold joins; rw [g _ (by omega)]
      rw [this]
    · rfl
theorem unitsTo_more {line : List Int} {tab : Int} {a : List U} {x : U} {n : Nat} (h : (unitsTo line tab n).1 = a ++ [x]) : ∀ k, n ≤ k → ∃ y l, (unitsTo line tab k).1 = a ++ y :: l := by
  intro k hk
  induction k with
  | zero => obtain rfl : n = 0 := by omega
            exact ⟨x, [], h⟩
  | succ k ih =>
    by_cases e : n = k + 1
    · subst e; exact ⟨x, [], h⟩
    · obtain ⟨y, l, hy⟩ := ih (by omega)
      simp only [unitsTo]
      revert hy
      generalize unitsTo line tab k = st
      obtain ⟨us, col⟩ := st
      simp only
      rintro rfl
      refine ustep_cases (Q := fun st => ∃ y l, st.1 = a ++ y :: l) ⟨y, l ++ [⟨k, k + 1, col, uwidth (line.getD k 0) col tab, utext (line.getD k 0) col tab⟩], by simp⟩ fun pre u e _ _ => ?_
      rcases List.eq_nil_or_concat l with rfl | ⟨l', z, rfl⟩
      · have := congrArg List.dropLast e
        simp at this
        subst this
        exact ⟨_, [], rfl⟩
      · have := congrArg List.dropLast e
        rw [show a ++ y :: l'.concat z = (a ++ y :: l') ++ [z] by simp, List.dropLast_concat, List.dropLast_concat] at this
        subst this
        exact ⟨y, l' ++ [{ u with to := k + 1, tx := u.tx ++ [line.getD k 0] }], by simp⟩
theorem unitsL_front {line more : List Int} {tab : Int} (hne : unitsL line tab ≠ []) : ∃ a x y l, unitsL line tab = a ++ [x] ∧ unitsL (line ++ more) tab = a ++ y :: l := by
  have e : unitsL line tab = (unitsTo (line ++ more) (tabZ tab) line.length).1 := by
    unfold unitsL; rw [unitsTo_front (tabZ_range tab) _ (Nat.le_refl _)]
  obtain ⟨a, x, hx⟩ : ∃ a x, unitsL line tab = a ++ [x] := ⟨_, _, (List.dropLast_concat_getLast hne).symm⟩
  obtain ⟨y, l, hy⟩ := unitsTo_more (e.symm.trans hx) (line ++ more).length (by simp)
  exact ⟨a, x, y, l, hx, hy⟩
/-- Parts: units follow one another without a gap. -/
inductive Chain : Int → Int → List U → Int → Int → Prop
  | nil {a c : Int} : Chain a c [] a c
  | cons {a c b d : Int} {u : U} {us : List U} (h1 : u.fr = a) (h2 : u.fr < u.to) (h3 : u.col = c) (h4 : 1 ≤ u.wd) (h5 : u.to - u.fr ≤ 3) (h : Chain u.to (u.col + u.wd) us b d) : Chain a c (u :: us) b d
theorem Chain.app {a c b d e f : Int} {us vs : List U} (H : Chain a c us b d) (G : Chain b d vs e f) : Chain a c (us ++ vs) e f := by
  induction H with
  | nil => exact G
  | cons h1 h2 h3 h4 h5 h ih => exact .cons h1 h2 h3 h4 h5 (ih G)
theorem Chain.split {us vs : List U} : ∀ {a c e f : Int}, Chain a c (us ++ vs) e f → ∃ b d, Chain a c us b d ∧ Chain b d vs e f := by
  induction us with
  | nil => intro a c e f H; exact ⟨a, c, .nil, H⟩
  | cons u us ih =>
    intro a c e f H
    cases H with
    | cons h1 h2 h3 h4 h5 h =>
      obtain ⟨b, d, g1, g2⟩ := ih h
      exact ⟨b, d, .cons h1 h2 h3 h4 h5 g1, g2⟩
theorem Chain.last {a c e f : Int} {pre : List U} {u : U} (H : Chain a c (pre ++ [u]) e f) : e = u.to ∧ f = u.col + u.wd := by
  obtain ⟨b, d, _, g⟩ := H.split
  cases g with
  | cons h1 h2 h3 h4 h5 h => cases h with | nil => exact ⟨rfl, rfl⟩
theorem Chain.to {line : List Int} {tab : Int} (ht : 1 ≤ tab ∧ tab ≤ 64) : ∀ n : Nat, Chain 0 0 (unitsTo line tab n).1 n (unitsTo line tab n).2
  | 0 => .nil
  | n + 1 => by
    have ih := Chain.to (line := line) ht n
    simp only [unitsTo]
    revert ih
    generalize unitsTo line tab n = st
    obtain ⟨us, col⟩ := st
    simp only
    intro ih
    refine ustep_cases (Q := fun st => Chain 0 0 st.1 ((n + 1 : Nat) : Int) st.2) ?_ ?_
    · have hw := uwidth_range (r := line.getD n 0) (col := col) ht
      refine ih.app ?_
      have := Chain.cons (a := n) (c := col) (b := (n : Int) + 1) (d := col + uwidth (line.getD n 0) col tab) (u := ⟨n, n + 1, col, uwidth (line.getD n 0) col tab, utext (line.getD n 0) col tab⟩) rfl (by simp only; omega) rfl hw.1 (by simp only; omega) .nil
      simpa using this
    · intro pre u e hz hj
      subst e
      obtain ⟨b, d, g1, g2⟩ := ih.split
      have hl := ih.last
      simp only [joins, Bool.and_eq_true, decide_eq_true_eq] at hj
      have h5 : (n : Int) + 1 - u.fr ≤ 3 := by
        have := hj.2
        split at this <;> omega
      cases g2 with
      | cons h1 h2 h3 h4 h5' h =>
        refine g1.app ?_
        have := Chain.cons (a := b) (c := d) (b := (n : Int) + 1) (d := col) (u := { u with to := n + 1, tx := u.tx ++ [line.getD n 0] }) (us := []) h1 (by simp only; omega) h3 h4 h5 (by rw [hl.2]; exact .nil)
        simpa using this
theorem unitsL_chain {line : List Int} {tab : Int} : ∃ w, Chain 0 0 (unitsL line tab) line.length w ∧ w = endOf (unitsL line tab) 0 := by
  have H := Chain.to (line := line) (tabZ_range tab) line.length
  refine ⟨_, H, ?_⟩
  change Chain 0 0 (unitsL line tab) _ _ at H
  revert H
  generalize (unitsTo line (tabZ tab) line.length).2 = w
  generalize unitsL line tab = us
  intro H
  rcases List.eq_nil_or_concat us with rfl | ⟨pre, u, rfl⟩
  · have : ∀ {a c e f : Int}, Chain a c [] e f → c = f := fun H => by cases H; rfl
    exact (this H).symm
  · rw [List.concat_eq_append] at H ⊢
    have := H.last.2
    simpa [endOf] using this
/-- Each unit of a chain begins where those ahead of it end. -/
theorem Chain.at {a c e f : Int} {us : List U} (H : Chain a c us e f) : ∀ {j : Nat} {u : U}, us[j]? = some u → (∀ k v, k < j → us[k]? = some v → v.to ≤ u.fr ∧ v.col + v.wd ≤ u.col) ∧ a ≤ u.fr ∧ c ≤ u.col := by
  induction H with
  | nil => intro j u h; simp at h
  | @cons a c b d v us h1 h2 h3 h4 h5 h ih =>
    intro j u hj
    cases j with
    | zero => simp at hj; subst hj; exact ⟨fun k w hk => by omega, by omega, by omega⟩
    | succ j =>
      simp at hj
      obtain ⟨g1, g2, g3⟩ := ih hj
      refine ⟨fun k w hk hw => ?_, by omega, by omega⟩
      cases k with
      | zero => simp at hw; subst hw; exact ⟨g2, g3⟩
      | succ k => exact g1 k w (by omega) (by simpa using hw)
theorem colOf_in {line : List Int} {tab i e : Int} {j : Nat} {u : U} (hj : (unitsL line tab)[j]? = some u) (h1 : u.fr ≤ i) (h2 : i < u.to) : colOf (unitsL line tab) i e = (u.col, u.wd) := by
  obtain ⟨w, H, _⟩ := unitsL_chain (line := line) (tab := tab)
  exact colOf_at hj (fun k v hk hv => by have := (H.at hj).1 k v hk hv; omega) h2
theorem atOf_in {line : List Int} {tab c n : Int} {j : Nat} {u : U} (hj : (unitsL line tab)[j]? = some u) (h1 : u.col ≤ c) (h2 : c < u.col + u.wd) : atOf (unitsL line tab) c n = u.fr := by
  obtain ⟨w, H, _⟩ := unitsL_chain (line := line) (tab := tab)
  exact atOf_at hj (fun k v hk hv => by have := (H.at hj).1 k v hk hv; omega) h2
theorem Chain.le {a c e f : Int} {us : List U} (H : Chain a c us e f) : ∀ u, u ∈ us → u.col + u.wd ≤ f ∧ u.to ≤ e := by
  have base : ∀ {a c e f : Int} {us : List U}, Chain a c us e f → a ≤ e ∧ c ≤ f := by
    intro a c e f us H
    induction H with
    | nil => exact ⟨Int.le_refl _, Int.le_refl _⟩
    | cons h1 h2 h3 h4 h5 h ih => omega
  induction H with
  | nil => intro u hu; simp at hu
  | cons h1 h2 h3 h4 h5 h ih =>
    intro v hv
    have := base h
    rcases List.mem_cons.1 hv with rfl | hv
    · omega
    · exact ih v hv
theorem atOf_end {line : List Int} {tab n : Int} : atOf (unitsL line tab) (endOf (unitsL line tab) 0) n = n := by
  obtain ⟨w, H, e⟩ := unitsL_chain (line := line) (tab := tab)
  rw [← e]
  exact atOf_none fun v hv => by have := H.le v hv; omega
/-- What is shown of a unit is as wide as it, and may be shown. -/
def shownB (r : Int) : Bool := validB r && decide (¬ r < 32) && decide (¬ (127 ≤ r ∧ r < 160))
def wsum : List Int → Int
  | [] => 0
  | r :: l => widthZ r + wsum l
theorem wsum_append {l m : List Int} : wsum (l ++ m) = wsum l + wsum m := by
  induction l with
  | nil => simp [wsum]
  | cons r l ih => simp only [List.cons_append, wsum, ih]; omega
theorem width_one {r : Int} (h : (32 ≤ r ∧ r < 127) ∨ (128 ≤ r ∧ r < 160) ∨ r = 65533 ∨ validB r = false) (h0 : ¬ (0 ≤ r ∧ r < 32)) : widthZ r = 1 := by
  have hz : zeroB r = false := by
    simp only [zeroB, decide_eq_false_iff_not]
    simp only [validB, decide_eq_false_iff_not] at h
    omega
  have hw : wideB r = false := by
    simp only [wideB, decide_eq_false_iff_not]
    simp only [validB, decide_eq_false_iff_not] at h
    omega
  have hc : ctlB r = false := by
    simp only [ctlB, decide_eq_false_iff_not]
    simp only [validB, decide_eq_false_iff_not] at h
    omega
  simp [widthZ, hz, hw, hc]
theorem shown_of_zero {r : Int} (h : zeroB r = true) : shownB r = true := by
  simp only [zeroB, decide_eq_true_eq] at h
  simp only [shownB, validB, Bool.and_eq_true, decide_eq_true_eq]
  omega
theorem showL_shown {r : Int} : (∀ x, x ∈ showL r → shownB x = true) ∧ (widthZ r ≠ 0 → wsum (showL r) = widthZ r) := by
  unfold showL
  split
  · rename_i hc
    have hc' := hc
    simp only [ctlB, decide_eq_true_eq] at hc
    have hw : widthZ r = 2 := by
      have : zeroB r = false := by simp only [zeroB, decide_eq_false_iff_not]; omega
      simp [widthZ, this, hc']
    split
    · obtain rfl : r = 127 := by omega
      refine ⟨?_, fun _ => ?_⟩ <;> decide
    · have hw2 : widthZ (r + 64) = 1 := width_one (by omega) (by omega)
      refine ⟨fun x hx => ?_, fun _ => ?_⟩
      · simp only [List.mem_cons, List.not_mem_nil, or_false] at hx
        rcases hx with rfl | rfl <;> simp only [shownB, validB, Bool.and_eq_true, decide_eq_true_eq] <;> omega
      · have : widthZ 94 = 1 := by decide
        simp only [wsum, hw2, this, hw]; rfl
  · rename_i hc
    simp only [ctlB, decide_eq_true_eq] at hc
    split
    · rename_i h
      refine ⟨fun x hx => ?_, fun _ => ?_⟩
      · simp only [List.mem_singleton] at hx; subst hx; decide
      · have h1 : widthZ 65533 = 1 := by decide
        have h2 : widthZ r = 1 := width_one (h.elim (fun h => .inr (.inl h)) (fun h => .inr (.inr (.inr h)))) (by omega)
        simp only [wsum, h1, h2]; rfl
    · rename_i h
      refine ⟨fun x hx => ?_, fun _ => by simp [wsum]⟩
      simp only [List.mem_singleton] at hx; subst hx
      have hv : validB x = true := by cases e : validB x <;> simp_all
      have h1 : ¬ (128 ≤ x ∧ x < 160) := fun e => h (.inl e)
      simp only [shownB, hv, Bool.true_and, Bool.and_eq_true, decide_eq_true_eq]
      simp only [validB, decide_eq_true_eq] at hv
      omega
theorem utext_shown {r col tab : Int} (ht : 1 ≤ tab) : (∀ x, x ∈ utext r col tab → shownB x = true) ∧ wsum (utext r col tab) = uwidth r col tab := by
  have hm0 : 0 ≤ col % tab := Int.emod_nonneg _ (by omega)
  have hm1 : col % tab < tab := Int.emod_lt_of_pos _ (by omega)
  unfold utext uwidth
  split
  · refine ⟨fun x hx => ?_, ?_⟩
    · rw [(List.mem_replicate.1 hx).2]; decide
    · have : ∀ n : Nat, wsum (List.replicate n 32) = n := by
        intro n
        induction n with
        | zero => rfl
        | succ n ih =>
          have : widthZ 32 = 1 := by decide
          simp only [List.replicate_succ, wsum, ih, this]; omega
      rw [this]; omega
  · split
    · rename_i hz
      refine ⟨fun x hx => ?_, ?_⟩
      · simp only [List.mem_cons, List.not_mem_nil, or_false] at hx
        rcases hx with rfl | rfl
        · decide
        · exact shown_of_zero (widthZ_zero.1 hz)
      · have : widthZ 32 = 1 := by decide
        simp only [wsum, this, hz]; rfl
    · rename_i hz
      exact ⟨showL_shown.1, showL_shown.2 hz⟩
def ShownOk (us : List U) : Prop := ∀ u, u ∈ us → (∀ x, x ∈ u.tx → shownB x = true) ∧ wsum u.tx = u.wd
theorem ShownOk.to {line : List Int} {tab : Int} (ht : 1 ≤ tab ∧ tab ≤ 64) : ∀ n, ShownOk (unitsTo line tab n).1
  | 0 => fun u hu => by simp [unitsTo] at hu
  | n + 1 => by
    have ih := ShownOk.to (line := line) ht n
    simp only [unitsTo]
    revert ih
    generalize unitsTo line tab n = st
    obtain ⟨us, col⟩ := st
    intro ih
    refine ustep_cases (Q := fun st => ShownOk st.1) ?_ ?_
    · intro u hu
      rcases List.mem_append.1 hu with h | h
      · exact ih u h
      · simp only [List.mem_singleton] at h; subst h
        exact utext_shown ht.1
    · intro pre u e hz hj v hv
      subst e
      rcases List.mem_append.1 hv with h | h
      · exact ih v (by simp [h])
      · simp only [List.mem_singleton] at h; subst h
        obtain ⟨g1, g2⟩ := ih u (by simp)
        refine ⟨fun x hx => ?_, ?_⟩
        · rcases List.mem_append.1 hx with h | h
          · exact g1 x h
          · simp only [List.mem_singleton] at h; subst h; exact shown_of_zero hz
        · simp only [wsum_append, wsum, g2, widthZ_zero.2 hz]; omega
theorem unitsL_shown {line : List Int} {tab : Int} : ShownOk (unitsL line tab) := ShownOk.to (tabZ_range tab) _
end Go.Proofs.YtcgajolmjjeibaaDoor.Am
end
