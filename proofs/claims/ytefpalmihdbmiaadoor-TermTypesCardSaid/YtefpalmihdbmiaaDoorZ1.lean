/- The texts of this seat, one behind another (part 1 of 10): the frame (an abstract machine), the contracts of functions, the laws. -/
import Derived.Test.YtefpalmihdbmiaaDoorAmF
import Derived.Laws.BitsLemmas
section
/- Scalars; whether two rows of runes are the same: contracts of utf.Valid and of the document's Valid and Runes, by walks. -/
set_option linter.unusedSimpArgs false
set_option linter.unusedVariables false
set_option maxRecDepth 20000
set_option maxHeartbeats 1000000
namespace Go.Proofs.YtefpalmihdbmiaaDoor.Am
open Go Go.RowKit Go.Proofs.Tryd
def isR (r : Int) : Prop := -2147483648 ≤ r ∧ r ≤ 2147483647
def validB (r : Int) : Bool := decide ((0 ≤ r ∧ r < 55296) ∨ (57343 < r ∧ r ≤ 1114111))
theorem valid_ok {r : Int} {h : Heap} (h0 : isR r) : ACalls prog 72 #[.int .i32 r] h (fun v h' => v = .bool (validB r) ∧ h' = h) := by
  obtain ⟨h0, h1⟩ := h0
  refine acalls_of_W func72 rfl (by kernel_rfl) (by kernel_rfl) (by simp [ntmps72]) ?_
  simp only [wk, wt, wl, ↓reduceIte, Nat.reduceEqDiff, Nat.reduceAdd, Nat.zero_add, not_false_eq_true, not_true_eq_false, aconv, IntKind.wrap_u32]
  repeat' (first
      | (with_reducible refine condK_dec (fun hc => ?_) (fun hc => ?_) <;> simp only [wk, wt, wl, ↓reduceIte, Nat.reduceEqDiff, Nat.reduceAdd, Nat.zero_add, not_false_eq_true, not_true_eq_false, aconv, IntKind.wrap_u32, hc])
      | (with_reducible refine condK_split (fun hc => ?_) (fun hc => ?_) <;> simp only [wk, wt, wl, ↓reduceIte, Nat.reduceEqDiff, Nat.reduceAdd, Nat.zero_add, not_false_eq_true, not_true_eq_false, aconv, IntKind.wrap_u32, hc])
      | (with_reducible refine gateO_dec (fun hc => ?_) (fun hc => ?_) <;> simp only [wk, wt, wl, ↓reduceIte, Nat.reduceEqDiff, Nat.reduceAdd, Nat.zero_add, not_false_eq_true, not_true_eq_false, aconv, IntKind.wrap_u32, hc])
      | (with_reducible refine gateO_decF (fun hc => ?_) (fun hc => ?_) <;> simp only [wk, wt, wl, ↓reduceIte, Nat.reduceEqDiff, Nat.reduceAdd, Nat.zero_add, not_false_eq_true, not_true_eq_false, aconv, IntKind.wrap_u32, hc])
      | (with_reducible refine gateO_boolT (fun hc => ?_) (fun hc => ?_) <;> simp only [wk, wt, wl, ↓reduceIte, Nat.reduceEqDiff, Nat.reduceAdd, Nat.zero_add, not_false_eq_true, not_true_eq_false, aconv, IntKind.wrap_u32, hc])
      | (with_reducible refine gateO_boolF (fun hc => ?_) (fun hc => ?_) <;> simp only [wk, wt, wl, ↓reduceIte, Nat.reduceEqDiff, Nat.reduceAdd, Nat.zero_add, not_false_eq_true, not_true_eq_false, aconv, IntKind.wrap_u32, hc]))
  all_goals (simp only [validB, and_true, Value.bool.injEq, eqT, eqF, decide_eq_decide]; omega)
theorem refValid_ok {r : Int} {h : Heap} (h0 : isR r) : ACalls prog 43 #[.int .i32 r] h (fun v h' => v = .bool (validB r) ∧ h' = h) := by
  obtain ⟨h0, h1⟩ := h0
  refine acalls_of_W func43 rfl (by kernel_rfl) (by kernel_rfl) (by simp [ntmps43]) ?_
  simp only [wk, wt, wl, ↓reduceIte, Nat.reduceEqDiff, Nat.reduceAdd, Nat.zero_add, not_false_eq_true, not_true_eq_false]
  repeat' (first
      | (with_reducible refine condK_dec (fun hc => ?_) (fun hc => ?_) <;> simp only [wk, wt, wl, ↓reduceIte, Nat.reduceEqDiff, Nat.reduceAdd, Nat.zero_add, not_false_eq_true, not_true_eq_false, hc])
      | (with_reducible refine condK_split (fun hc => ?_) (fun hc => ?_) <;> simp only [wk, wt, wl, ↓reduceIte, Nat.reduceEqDiff, Nat.reduceAdd, Nat.zero_add, not_false_eq_true, not_true_eq_false, hc])
      | (with_reducible refine gateO_dec (fun hc => ?_) (fun hc => ?_) <;> simp only [wk, wt, wl, ↓reduceIte, Nat.reduceEqDiff, Nat.reduceAdd, Nat.zero_add, not_false_eq_true, not_true_eq_false, hc])
      | (with_reducible refine gateO_decF (fun hc => ?_) (fun hc => ?_) <;> simp only [wk, wt, wl, ↓reduceIte, Nat.reduceEqDiff, Nat.reduceAdd, Nat.zero_add, not_false_eq_true, not_true_eq_false, hc])
      | (with_reducible refine gateO_boolT (fun hc => ?_) (fun hc => ?_) <;> simp only [wk, wt, wl, ↓reduceIte, Nat.reduceEqDiff, Nat.reduceAdd, Nat.zero_add, not_false_eq_true, not_true_eq_false, hc])
      | (with_reducible refine gateO_boolF (fun hc => ?_) (fun hc => ?_) <;> simp only [wk, wt, wl, ↓reduceIte, Nat.reduceEqDiff, Nat.reduceAdd, Nat.zero_add, not_false_eq_true, not_true_eq_false, hc]))
  all_goals (simp only [validB, and_true, Value.bool.injEq, eqT, eqF, decide_eq_decide]; omega)
def intOf : Value → Int
  | .int _ x => x
  | _ => 0
theorem intOf_int {k : IntKind} {x : Int} : intOf (.int k x) = x := rfl
theorem getD_ext {xs ys : List Int} (hl : xs.length = ys.length) (h : ∀ i, i < xs.length → xs.getD i 0 = ys.getD i 0) : xs = ys := by
  refine List.ext_getElem hl fun i h1 h2 => ?_
  have := h i h1
  simpa [h1, h2] using this
theorem runes_ok {a b : Value} {xs ys : List Int} {h : Heap} (ha : RdI prog h .i32 a xs) (hb : RdI prog h .i32 b ys) (hlen : xs.length < 9223372036854775807) : ACalls prog 45 #[a, b] h (fun v h' => v = .bool (decide (xs = ys)) ∧ h' = h) := by
  refine acalls_of_W func45 rfl (by kernel_rfl) (by kernel_rfl) (by simp [ntmps45]) ?_
  simp only [wk, wt, wl, ↓reduceIte, Nat.reduceEqDiff, Nat.reduceAdd, Nat.zero_add, not_false_eq_true, not_true_eq_false, Rd.len ha underlying44, Rd.len hb underlying44]
  refine condK_dec (fun hc => ?_) (fun hc => ?_)
  · simp only [wk, wt, wl, ↓reduceIte, Nat.reduceEqDiff, Nat.reduceAdd, Nat.zero_add, not_false_eq_true, not_true_eq_false]
    refine ⟨?_, trivial⟩
    have : ¬ xs = ys := fun e => hc (by rw [e])
    simp [this]
  · have hl : xs.length = ys.length := by omega
    simp only [wk, wt, wl, ↓reduceIte, Nat.reduceEqDiff, Nat.reduceAdd, Nat.zero_add, not_false_eq_true, not_true_eq_false]
    refine W_loop (fun tm h' => h' = h ∧ tm 0 = a ∧ tm 1 = b ∧ ∃ i : Nat, tm 5 = .int .i64 i ∧ i ≤ xs.length ∧ ∀ j, j < i → xs.getD j 0 = ys.getD j 0) (fun tm _ => (xs.length - intOf (tm 5)).toNat) ⟨rfl, by simp only [wk, wt, wl, ↓reduceIte, Nat.reduceEqDiff, Nat.reduceAdd, Nat.zero_add, not_false_eq_true, not_true_eq_false], by simp only [wk, wt, wl, ↓reduceIte, Nat.reduceEqDiff, Nat.reduceAdd, Nat.zero_add, not_false_eq_true, not_true_eq_false], 0, by simp only [wk, wt, wl, ↓reduceIte, Nat.reduceEqDiff, Nat.reduceAdd, Nat.zero_add, not_false_eq_true, not_true_eq_false]; rfl, by omega, fun j hj => by omega⟩ ?_
    rintro tm h' ⟨rfl, h0, h1, i, h5, hi, hj⟩
    simp only [wk, wt, wl, ↓reduceIte, Nat.reduceEqDiff, Nat.reduceAdd, Nat.zero_add, not_false_eq_true, not_true_eq_false, h0, h1, h5, Rd.len ha underlying44]
    refine condK_dec (fun hc => ?_) (fun hc => ?_)
    · simp only [wk, wt, wl, ↓reduceIte, Nat.reduceEqDiff, Nat.reduceAdd, Nat.zero_add, not_false_eq_true, not_true_eq_false]
      refine adraw_order [(0, false), (1, false), (2, false), (3, false), (4, false), (5, false), (6, false), (7, false), (8, false)] mixed (by kernel_rfl) (by kernel_rfl) (by kernel_rfl) (by with_reducible repeat (first | exact PF_retK | refine PF_thenK ?_ | refine PF_blockK ?_)) ?_
      simp only [wk, wt, wl, ↓reduceIte, Nat.reduceEqDiff, Nat.reduceAdd, Nat.zero_add, not_false_eq_true, not_true_eq_false, h0, h1, h5, Rd.index ha underlying44 asz21 (q := .i64) (i := i) (by omega) (by omega), Rd.index hb underlying44 asz21 (q := .i64) (i := i) (by omega) (by omega), RdI.at ha underlying21 rfl (i := i) (by omega), RdI.at hb underlying21 rfl (i := i) (by omega)]
      refine condK_dec (fun hd => ?_) (fun hd => ?_)
      · simp only [wk, wt, wl, ↓reduceIte, Nat.reduceEqDiff, Nat.reduceAdd, Nat.zero_add, not_false_eq_true, not_true_eq_false]
        have : ¬ xs = ys := fun e => hd (by rw [e])
        simp [this]
      · simp (disch := omega) only [wk, wt, wl, ↓reduceIte, Nat.reduceEqDiff, Nat.reduceAdd, Nat.zero_add, not_false_eq_true, not_true_eq_false, h0, h1, h5, IntWalk.i64_in, intOf_int]
        refine ⟨⟨i + 1, by simp, by omega, fun j hj' => ?_⟩, by omega⟩
        by_cases e : j = i
        · subst e; exact Decidable.not_not.1 hd
        · exact hj j (by omega)
    · simp only [wk, wt, wl, ↓reduceIte, Nat.reduceEqDiff, Nat.reduceAdd, Nat.zero_add, not_false_eq_true, not_true_eq_false]
      have : xs = ys := getD_ext hl fun j hj' => hj j (by omega)
      simp [this]
end Go.Proofs.YtefpalmihdbmiaaDoor.Am
end
section
/- What the small functions over runes answer: contracts, by walks. -/
set_option linter.unusedSimpArgs false
set_option linter.unusedVariables false
set_option maxHeartbeats 1000000
namespace Go.Proofs.YtefpalmihdbmiaaDoor.Am
open Go Go.RowKit Go.Proofs.Tryd
def zeroB (r : Int) : Bool := decide ((768 ≤ r ∧ r ≤ 879) ∨ (8203 ≤ r ∧ r ≤ 8207) ∨ (8400 ≤ r ∧ r ≤ 8447) ∨ (65024 ≤ r ∧ r ≤ 65039))
def wideB (r : Int) : Bool := decide ((4352 ≤ r ∧ r ≤ 4447) ∨ (11904 ≤ r ∧ r ≤ 12350) ∨ (12353 ≤ r ∧ r ≤ 19903) ∨ (19968 ≤ r ∧ r ≤ 42191) ∨ (44032 ≤ r ∧ r ≤ 55203) ∨ (63744 ≤ r ∧ r ≤ 64255) ∨ (65072 ≤ r ∧ r ≤ 65135) ∨ (65280 ≤ r ∧ r ≤ 65376) ∨ (65504 ≤ r ∧ r ≤ 65510) ∨ (127744 ≤ r ∧ r ≤ 128591) ∨ (129280 ≤ r ∧ r ≤ 129535) ∨ (131072 ≤ r ∧ r ≤ 262141))
def ctlB (r : Int) : Bool := decide ((0 ≤ r ∧ r < 32) ∨ r = 127)
def widthZ (r : Int) : Int := if zeroB r = true then 0 else if wideB r = true ∨ ctlB r = true then 2 else 1
def tabZ (t : Int) : Int := if t < 1 ∨ 64 < t then 8 else t
theorem zero_ok {r : Int} {h : Heap} : ACalls prog 40 #[.int .i32 r] h (fun v h' => v = .bool (zeroB r) ∧ h' = h) := by
  refine acalls_of_W func40 rfl (by kernel_rfl) (by kernel_rfl) (by simp [ntmps40]) ?_
  simp only [wk, wt, wl, ↓reduceIte, Nat.reduceEqDiff, Nat.reduceAdd, Nat.zero_add, not_false_eq_true, not_true_eq_false]
  repeat' (first
      | (with_reducible refine condK_dec (fun hc => ?_) (fun hc => ?_) <;> simp only [wk, wt, wl, ↓reduceIte, Nat.reduceEqDiff, Nat.reduceAdd, Nat.zero_add, not_false_eq_true, not_true_eq_false, hc])
      | (with_reducible refine condK_split (fun hc => ?_) (fun hc => ?_) <;> simp only [wk, wt, wl, ↓reduceIte, Nat.reduceEqDiff, Nat.reduceAdd, Nat.zero_add, not_false_eq_true, not_true_eq_false, hc])
      | (with_reducible refine gateO_dec (fun hc => ?_) (fun hc => ?_) <;> simp only [wk, wt, wl, ↓reduceIte, Nat.reduceEqDiff, Nat.reduceAdd, Nat.zero_add, not_false_eq_true, not_true_eq_false, hc])
      | (with_reducible refine gateO_decF (fun hc => ?_) (fun hc => ?_) <;> simp only [wk, wt, wl, ↓reduceIte, Nat.reduceEqDiff, Nat.reduceAdd, Nat.zero_add, not_false_eq_true, not_true_eq_false, hc])
      | (with_reducible refine gateO_boolT (fun hc => ?_) (fun hc => ?_) <;> simp only [wk, wt, wl, ↓reduceIte, Nat.reduceEqDiff, Nat.reduceAdd, Nat.zero_add, not_false_eq_true, not_true_eq_false, hc])
      | (with_reducible refine gateO_boolF (fun hc => ?_) (fun hc => ?_) <;> simp only [wk, wt, wl, ↓reduceIte, Nat.reduceEqDiff, Nat.reduceAdd, Nat.zero_add, not_false_eq_true, not_true_eq_false, hc]))
  all_goals (simp only [zeroB, and_true, Value.bool.injEq, eqT, eqF, decide_eq_decide]; omega)
theorem ctl_ok {r : Int} {h : Heap} : ACalls prog 42 #[.int .i32 r] h (fun v h' => v = .bool (ctlB r) ∧ h' = h) := by
  refine acalls_of_W func42 rfl (by kernel_rfl) (by kernel_rfl) (by simp [ntmps42]) ?_
  simp only [wk, wt, wl, ↓reduceIte, Nat.reduceEqDiff, Nat.reduceAdd, Nat.zero_add, not_false_eq_true, not_true_eq_false]
  repeat' (first
      | (with_reducible refine condK_dec (fun hc => ?_) (fun hc => ?_) <;> simp only [wk, wt, wl, ↓reduceIte, Nat.reduceEqDiff, Nat.reduceAdd, Nat.zero_add, not_false_eq_true, not_true_eq_false, hc])
      | (with_reducible refine condK_split (fun hc => ?_) (fun hc => ?_) <;> simp only [wk, wt, wl, ↓reduceIte, Nat.reduceEqDiff, Nat.reduceAdd, Nat.zero_add, not_false_eq_true, not_true_eq_false, hc])
      | (with_reducible refine gateO_dec (fun hc => ?_) (fun hc => ?_) <;> simp only [wk, wt, wl, ↓reduceIte, Nat.reduceEqDiff, Nat.reduceAdd, Nat.zero_add, not_false_eq_true, not_true_eq_false, hc])
      | (with_reducible refine gateO_decF (fun hc => ?_) (fun hc => ?_) <;> simp only [wk, wt, wl, ↓reduceIte, Nat.reduceEqDiff, Nat.reduceAdd, Nat.zero_add, not_false_eq_true, not_true_eq_false, hc])
      | (with_reducible refine gateO_boolT (fun hc => ?_) (fun hc => ?_) <;> simp only [wk, wt, wl, ↓reduceIte, Nat.reduceEqDiff, Nat.reduceAdd, Nat.zero_add, not_false_eq_true, not_true_eq_false, hc])
      | (with_reducible refine gateO_boolF (fun hc => ?_) (fun hc => ?_) <;> simp only [wk, wt, wl, ↓reduceIte, Nat.reduceEqDiff, Nat.reduceAdd, Nat.zero_add, not_false_eq_true, not_true_eq_false, hc]))
  all_goals (simp only [ctlB, and_true, Value.bool.injEq, eqT, eqF, decide_eq_decide]; omega)
theorem wide_ok {r : Int} {h : Heap} : ACalls prog 41 #[.int .i32 r] h (fun v h' => v = .bool (wideB r) ∧ h' = h) := by
  refine acalls_of_W func41 rfl (by kernel_rfl) (by kernel_rfl) (by simp [ntmps41]) ?_
  rcases (show r < 4352 ∨ (4352 ≤ r ∧ r ≤ 4447) ∨ (4448 ≤ r ∧ r < 11904) ∨ (11904 ≤ r ∧ r ≤ 12350) ∨ (12351 ≤ r ∧ r < 12353) ∨ (12353 ≤ r ∧ r ≤ 19903) ∨ (19904 ≤ r ∧ r < 19968) ∨ (19968 ≤ r ∧ r ≤ 42191) ∨ (42192 ≤ r ∧ r < 44032) ∨ (44032 ≤ r ∧ r ≤ 55203) ∨ (55204 ≤ r ∧ r < 63744) ∨ (63744 ≤ r ∧ r ≤ 64255) ∨ (64256 ≤ r ∧ r < 65072) ∨ (65072 ≤ r ∧ r ≤ 65135) ∨ (65136 ≤ r ∧ r < 65280) ∨ (65280 ≤ r ∧ r ≤ 65376) ∨ (65377 ≤ r ∧ r < 65504) ∨ (65504 ≤ r ∧ r ≤ 65510) ∨ (65511 ≤ r ∧ r < 127744) ∨ (127744 ≤ r ∧ r ≤ 128591) ∨ (128592 ≤ r ∧ r < 129280) ∨ (129280 ≤ r ∧ r ≤ 129535) ∨ (129536 ≤ r ∧ r < 131072) ∨ (131072 ≤ r ∧ r ≤ 262141) ∨ 262142 ≤ r from by omega) with hi | hi | hi | hi | hi | hi | hi | hi | hi | hi | hi | hi | hi | hi | hi | hi | hi | hi | hi | hi | hi | hi | hi | hi | hi
  all_goals simp (disch := omega) only [wk, wt, wl, ↓reduceIte, Nat.reduceEqDiff, Nat.reduceAdd, Nat.zero_add, not_false_eq_true, not_true_eq_false, decide_eq_true, decide_eq_false]
  all_goals (simp only [wideB, and_true, Value.bool.injEq, eqT, eqF]; omega)
theorem refWidth_ok {r : Int} {h : Heap} : ACalls prog 23 #[.int .i32 r] h (fun v h' => v = .int .i64 (widthZ r) ∧ h' = h) := by
  refine acalls_of_W func23 rfl (by kernel_rfl) (by kernel_rfl) (by simp [ntmps23]) ?_
  simp only [wk, wt, wl, ↓reduceIte, Nat.reduceEqDiff, Nat.reduceAdd, Nat.zero_add, not_false_eq_true, not_true_eq_false]
  repeat' (first
      | (with_reducible refine condK_dec (fun hc => ?_) (fun hc => ?_) <;> simp only [wk, wt, wl, ↓reduceIte, Nat.reduceEqDiff, Nat.reduceAdd, Nat.zero_add, not_false_eq_true, not_true_eq_false, hc])
      | (with_reducible refine condK_split (fun hc => ?_) (fun hc => ?_) <;> simp only [wk, wt, wl, ↓reduceIte, Nat.reduceEqDiff, Nat.reduceAdd, Nat.zero_add, not_false_eq_true, not_true_eq_false, hc])
      | (with_reducible refine gateO_dec (fun hc => ?_) (fun hc => ?_) <;> simp only [wk, wt, wl, ↓reduceIte, Nat.reduceEqDiff, Nat.reduceAdd, Nat.zero_add, not_false_eq_true, not_true_eq_false, hc])
      | (with_reducible refine gateO_decF (fun hc => ?_) (fun hc => ?_) <;> simp only [wk, wt, wl, ↓reduceIte, Nat.reduceEqDiff, Nat.reduceAdd, Nat.zero_add, not_false_eq_true, not_true_eq_false, hc])
      | (with_reducible refine gateO_boolT (fun hc => ?_) (fun hc => ?_) <;> simp only [wk, wt, wl, ↓reduceIte, Nat.reduceEqDiff, Nat.reduceAdd, Nat.zero_add, not_false_eq_true, not_true_eq_false, hc])
      | (with_reducible refine gateO_boolF (fun hc => ?_) (fun hc => ?_) <;> simp only [wk, wt, wl, ↓reduceIte, Nat.reduceEqDiff, Nat.reduceAdd, Nat.zero_add, not_false_eq_true, not_true_eq_false, hc])
      | (with_reducible refine (zero_ok).use_pure ?_; simp only [wk, wt, wl, ↓reduceIte, Nat.reduceEqDiff, Nat.reduceAdd, Nat.zero_add, not_false_eq_true, not_true_eq_false])
      | (with_reducible refine (wide_ok).use_pure ?_; simp only [wk, wt, wl, ↓reduceIte, Nat.reduceEqDiff, Nat.reduceAdd, Nat.zero_add, not_false_eq_true, not_true_eq_false])
      | (with_reducible refine (ctl_ok).use_pure ?_; simp only [wk, wt, wl, ↓reduceIte, Nat.reduceEqDiff, Nat.reduceAdd, Nat.zero_add, not_false_eq_true, not_true_eq_false]))
  all_goals simp [widthZ, *]
end Go.Proofs.YtefpalmihdbmiaaDoor.Am
end
section
/- What is shown of a rune: contracts of cell.Show and of the document's Show, by walks; two rows of runes compared. -/
set_option linter.unusedSimpArgs false
set_option linter.unusedVariables false
set_option maxHeartbeats 1000000
namespace Go.Proofs.YtefpalmihdbmiaaDoor.Am
open Go Go.RowKit Go.Proofs.Tryd
def showL (r : Int) : List Int := if ctlB r = true then (if 64 ≤ r then [94, r - 64] else [94, r + 64]) else if (128 ≤ r ∧ r < 160) ∨ validB r = false then [65533] else [r]
theorem xor64 {r : Int} (h0 : 0 ≤ r) (h1 : r < 32) : bits .xor .i32 r 64 = r + 64 := by
  have : ∀ n : Fin 32, bits .xor .i32 (n.val : Int) 64 = (n.val : Int) + 64 := by decide
  have := this ⟨r.toNat, by omega⟩
  simp only [Int.toNat_of_nonneg h0] at this
  exact this
theorem xor64b : bits .xor .i32 127 64 = 63 := by decide
theorem showL_ctl {r : Int} (h0 : 0 ≤ r) (h1 : r < 32) : showL r = [94, r + 64] := by
  have : ctlB r = true := by simp [ctlB]; omega
  simp only [showL, this, if_true]; rw [if_neg (by omega)]
theorem showL_del : showL 127 = [94, 63] := by decide
theorem not_ctl {r : Int} (h1 : ¬ (0 ≤ r ∧ r < 32)) (h2 : ¬ r = 127) : ctlB r = false := by simp [ctlB]; omega
theorem showL_c1 {r : Int} (h0 : 128 ≤ r) (h1 : r < 160) : showL r = [65533] := by
  simp only [showL, not_ctl (r := r) (by omega) (by omega), Bool.false_eq_true, if_false]; rw [if_pos (.inl ⟨h0, h1⟩)]
theorem showL_bad {r : Int} (h1 : ¬ (0 ≤ r ∧ r < 32)) (h2 : ¬ r = 127) (hv : (!validB r) = true) : showL r = [65533] := by
  simp only [showL, not_ctl h1 h2, Bool.false_eq_true, if_false]; rw [if_pos (.inr (by simpa using hv))]
theorem showL_self {r : Int} (h1 : ¬ (0 ≤ r ∧ r < 32)) (h2 : ¬ r = 127) (h3 : ¬ (128 ≤ r ∧ r < 160)) (hv : (!validB r) = false) : showL r = [r] := by
  simp only [showL, not_ctl h1 h2, Bool.false_eq_true, if_false]; rw [if_neg (fun e => e.elim h3 (fun e => by simp [e] at hv))]
theorem show_ok {r : Int} {h : Heap} (h0 : isR r) : ACalls prog 60 #[.int .i32 r] h (fun v h' => v = .slice (some ⟨h.size, 0, none⟩) (showL r).length ((showL r).length + 1) ∧ h' = h.new 21 ((showL r).map (Value.int .i32))) := by
  refine acalls_of_W func60 rfl (by kernel_rfl) (by kernel_rfl) (by simp [ntmps60]) ?_
  simp only [wk, wt, wl, ↓reduceIte, Nat.reduceEqDiff, Nat.reduceAdd, Nat.zero_add, not_false_eq_true, not_true_eq_false]
  repeat' (first
      | (with_reducible refine condK_dec (fun hc => ?_) (fun hc => ?_) <;> simp only [wk, wt, wl, ↓reduceIte, Nat.reduceEqDiff, Nat.reduceAdd, Nat.zero_add, not_false_eq_true, not_true_eq_false, hc])
      | (with_reducible refine condK_split (fun hc => ?_) (fun hc => ?_) <;> simp only [wk, wt, wl, ↓reduceIte, Nat.reduceEqDiff, Nat.reduceAdd, Nat.zero_add, not_false_eq_true, not_true_eq_false, hc])
      | (with_reducible refine gateO_dec (fun hc => ?_) (fun hc => ?_) <;> simp only [wk, wt, wl, ↓reduceIte, Nat.reduceEqDiff, Nat.reduceAdd, Nat.zero_add, not_false_eq_true, not_true_eq_false, hc])
      | (with_reducible refine gateO_decF (fun hc => ?_) (fun hc => ?_) <;> simp only [wk, wt, wl, ↓reduceIte, Nat.reduceEqDiff, Nat.reduceAdd, Nat.zero_add, not_false_eq_true, not_true_eq_false, hc])
      | (with_reducible refine gateO_boolT (fun hc => ?_) (fun hc => ?_) <;> simp only [wk, wt, wl, ↓reduceIte, Nat.reduceEqDiff, Nat.reduceAdd, Nat.zero_add, not_false_eq_true, not_true_eq_false, hc])
      | (with_reducible refine gateO_boolF (fun hc => ?_) (fun hc => ?_) <;> simp only [wk, wt, wl, ↓reduceIte, Nat.reduceEqDiff, Nat.reduceAdd, Nat.zero_add, not_false_eq_true, not_true_eq_false, hc])
      | (with_reducible refine (valid_ok h0).use_pure ?_; simp only [wk, wt, wl, ↓reduceIte, Nat.reduceEqDiff, Nat.reduceAdd, Nat.zero_add, not_false_eq_true, not_true_eq_false]))
  all_goals first
    | (rw [showL_del, xor64b]; exact ⟨rfl, rfl⟩)
    | (rw [showL_ctl (by omega) (by omega), xor64 (by omega) (by omega)]; exact ⟨rfl, rfl⟩)
    | (rw [showL_c1 (by omega) (by omega)]; exact ⟨rfl, rfl⟩)
    | (rw [showL_bad (by omega) (by omega) (by assumption)]; exact ⟨rfl, rfl⟩)
    | (rw [showL_self (by omega) (by omega) (by omega) (by assumption)]; exact ⟨rfl, rfl⟩)
theorem refShow_ok {r : Int} {h : Heap} (h0 : isR r) : ACalls prog 24 #[.int .i32 r] h (fun v h' => v = .slice (some ⟨h.size, 0, none⟩) (showL r).length ((showL r).length + 1) ∧ h' = h.new 21 ((showL r).map (Value.int .i32))) := by
  refine acalls_of_W func24 rfl (by kernel_rfl) (by kernel_rfl) (by simp [ntmps24]) ?_
  simp only [wk, wt, wl, ↓reduceIte, Nat.reduceEqDiff, Nat.reduceAdd, Nat.zero_add, not_false_eq_true, not_true_eq_false]
  repeat' (first
      | (with_reducible refine condK_dec (fun hc => ?_) (fun hc => ?_) <;> simp only [wk, wt, wl, ↓reduceIte, Nat.reduceEqDiff, Nat.reduceAdd, Nat.zero_add, not_false_eq_true, not_true_eq_false, hc])
      | (with_reducible refine condK_split (fun hc => ?_) (fun hc => ?_) <;> simp only [wk, wt, wl, ↓reduceIte, Nat.reduceEqDiff, Nat.reduceAdd, Nat.zero_add, not_false_eq_true, not_true_eq_false, hc])
      | (with_reducible refine gateO_dec (fun hc => ?_) (fun hc => ?_) <;> simp only [wk, wt, wl, ↓reduceIte, Nat.reduceEqDiff, Nat.reduceAdd, Nat.zero_add, not_false_eq_true, not_true_eq_false, hc])
      | (with_reducible refine gateO_decF (fun hc => ?_) (fun hc => ?_) <;> simp only [wk, wt, wl, ↓reduceIte, Nat.reduceEqDiff, Nat.reduceAdd, Nat.zero_add, not_false_eq_true, not_true_eq_false, hc])
      | (with_reducible refine gateO_boolT (fun hc => ?_) (fun hc => ?_) <;> simp only [wk, wt, wl, ↓reduceIte, Nat.reduceEqDiff, Nat.reduceAdd, Nat.zero_add, not_false_eq_true, not_true_eq_false, hc])
      | (with_reducible refine gateO_boolF (fun hc => ?_) (fun hc => ?_) <;> simp only [wk, wt, wl, ↓reduceIte, Nat.reduceEqDiff, Nat.reduceAdd, Nat.zero_add, not_false_eq_true, not_true_eq_false, hc])
      | (with_reducible refine (ctl_ok).use_pure ?_; simp only [wk, wt, wl, ↓reduceIte, Nat.reduceEqDiff, Nat.reduceAdd, Nat.zero_add, not_false_eq_true, not_true_eq_false])
      | (with_reducible refine (refValid_ok h0).use_pure ?_; simp only [wk, wt, wl, ↓reduceIte, Nat.reduceEqDiff, Nat.reduceAdd, Nat.zero_add, not_false_eq_true, not_true_eq_false]))
  all_goals first
    | (have hctl : (0 ≤ r ∧ r < 32) ∨ r = 127 := by
        have : ctlB r = true := by assumption
        simpa [ctlB] using this
       simp (disch := omega) only [IntWalk.i32_in]
       first
        | (obtain rfl : r = 127 := by omega
           rw [showL_del]; exact ⟨rfl, rfl⟩)
        | (rw [showL_ctl (by omega) (by omega)]; exact ⟨rfl, rfl⟩))
    | (have hctl : ¬ ((0 ≤ r ∧ r < 32) ∨ r = 127) := by
        have : ctlB r = false := by assumption
        simpa only [ctlB, decide_eq_false_iff_not] using this
       first
        | (rw [showL_c1 (by omega) (by omega)]; exact ⟨rfl, rfl⟩)
        | (rw [showL_bad (by omega) (by omega) (by assumption)]; exact ⟨rfl, rfl⟩)
        | (rw [showL_self (by omega) (by omega) (by omega) (by assumption)]; exact ⟨rfl, rfl⟩))
end Go.Proofs.YtefpalmihdbmiaaDoor.Am
end
section
/- How wide a rune is: the contract of cell.Width, by a walk over its search in the table of ranges. -/
set_option linter.unusedSimpArgs false
set_option linter.unusedVariables false
set_option maxHeartbeats 1000000
namespace Go.Proofs.YtefpalmihdbmiaaDoor.Am
open Go Go.RowKit Go.Proofs.Tryd
def rgs : List (Int × Int × Int) := [(0, 31, 2), (127, 127, 2), (768, 879, 0), (4352, 4447, 2), (8203, 8207, 0), (8400, 8447, 0), (11904, 12350, 2), (12353, 19903, 2), (19968, 42191, 2), (44032, 55203, 2), (63744, 64255, 2), (65024, 65039, 0), (65072, 65135, 2), (65280, 65376, 2), (65504, 65510, 2), (127744, 128591, 2), (129280, 129535, 2), (131072, 262141, 2)]
def rgsV : List Value := rgs.flatMap fun x => [.int .i32 x.1, .int .i32 x.2.1, .int .i32 x.2.2]
def rlo (m : Nat) : Int := (rgs.getD m (0, 0, 0)).1
def rhi (m : Nat) : Int := (rgs.getD m (0, 0, 0)).2.1
def rwd (m : Nat) : Int := (rgs.getD m (0, 0, 0)).2.2
/-- The package's table stands in memory as the program's text lays it. -/
def Gl (h : Heap) : Prop := ∃ k v, h.get 0 = some k ∧ 0 < h.size ∧ k.live = true ∧ k.cells = [v] ∧ Rd prog h 3 v 18 rgsV
theorem Gl.keeps {h h' : Heap} (G : Gl h) (K : Keeps h h') : Gl h' := by
  obtain ⟨k, v, h1, h2, h3, h4, h5⟩ := G
  exact ⟨k, v, (K.at h2).trans h1, Nat.lt_of_lt_of_le h2 (Ch.le K), h3, h4, h5.keeps K⟩
theorem rgsV_at : ∀ m : Fin 18, rgsV[m.val * 3 + 0]? = some (.int .i32 (rlo m)) ∧ rgsV[m.val * 3 + 1]? = some (.int .i32 (rhi m)) ∧ rgsV[m.val * 3 + 2]? = some (.int .i32 (rwd m)) := by
  intro m
  have : ∀ n, n < 18 → rgsV[n * 3 + 0]? = some (.int .i32 (rlo n)) ∧ rgsV[n * 3 + 1]? = some (.int .i32 (rhi n)) ∧ rgsV[n * 3 + 2]? = some (.int .i32 (rwd n)) := by
    intro n hn
    iterate 18 (cases n with | zero => exact ⟨rfl, rfl, rfl⟩ | succ n => ?_)
    omega
  exact this m.val m.isLt
theorem rgs_sorted : ∀ i j : Fin 18, i.val < j.val → rhi i < rlo j ∧ rlo i ≤ rlo j ∧ rhi i ≤ rhi j := by decide
theorem rgs_range : ∀ i : Fin 18, rlo i ≤ rhi i ∧ 0 ≤ rwd i ∧ rwd i ≤ 2 := by decide
theorem width_in {r : Int} {m : Nat} (hm : m < 18) (h1 : rlo m ≤ r) (h2 : r ≤ rhi m) : widthZ r = rwd m := by
  have key : ∀ n, n < 18 → rlo n ≤ r → r ≤ rhi n → widthZ r = rwd n := by
    intro n hn g1 g2
    iterate 18 (cases n with | zero => (simp only [rlo, rhi, rwd, rgs, List.getD_cons_zero, List.getD_cons_succ] at g1 g2 ⊢; simp only [widthZ, zeroB, wideB, ctlB, decide_eq_true_eq]; first | (rw [if_pos (by omega)]; done) | (rw [if_neg (by omega), if_pos (by omega)]; done)) | succ n => ?_)
    omega
  exact key m hm h1 h2
theorem width_out {r : Int} (h : ∀ m, m < 18 → r < rlo m ∨ rhi m < r) : widthZ r = 1 := by
  have h0 := h 0 (by omega); have h1 := h 1 (by omega); have h2 := h 2 (by omega); have h3 := h 3 (by omega); have h4 := h 4 (by omega); have h5 := h 5 (by omega)
  have h6 := h 6 (by omega); have h7 := h 7 (by omega); have h8 := h 8 (by omega); have h9 := h 9 (by omega); have h10 := h 10 (by omega); have h11 := h 11 (by omega)
  have h12 := h 12 (by omega); have h13 := h 13 (by omega); have h14 := h 14 (by omega); have h15 := h 15 (by omega); have h16 := h 16 (by omega); have h17 := h 17 (by omega)
  clear h
  simp only [rlo, rhi, rgs, List.getD_cons_zero, List.getD_cons_succ] at *
  simp only [widthZ, zeroB, wideB, ctlB, decide_eq_true_eq]
  rw [if_neg (by omega), if_neg (by omega)]
theorem width_ok {r : Int} {h : Heap} (h0 : isR r) (G : Gl h) : ACalls prog 61 #[.int .i32 r] h (fun v h' => v = .int .i64 (widthZ r) ∧ h' = h) := by
  obtain ⟨k, g, g1, g2, g3, g4, g5⟩ := G
  have GL : aload prog h 90 ⟨0, 0, none⟩ = some g := by simp [aload, g1, g3, g4, underlying90, isAggD]
  have AT : ∀ m : Nat, m < 18 → aload prog h 21 ⟨(eltA g 3 m).block, (eltA g 3 m).off + 0, none⟩ = some (.int .i32 (rlo m)) ∧ aload prog h 21 ⟨(eltA g 3 m).block, (eltA g 3 m).off + 1, none⟩ = some (.int .i32 (rhi m)) ∧ aload prog h 21 ⟨(eltA g 3 m).block, (eltA g 3 m).off + 2, none⟩ = some (.int .i32 (rwd m)) := fun m hm => by
    have := rgsV_at ⟨m, hm⟩
    exact ⟨(g5.at underlying21 rfl hm (by omega)).trans this.1, (g5.at underlying21 rfl hm (by omega)).trans this.2.1, (g5.at underlying21 rfl hm (by omega)).trans this.2.2⟩
  refine acalls_of_W func61 rfl (by kernel_rfl) (by kernel_rfl) (by simp [ntmps61]) ?_
  simp only [wk, wt, wl, ↓reduceIte, Nat.reduceEqDiff, Nat.reduceAdd, Nat.zero_add, not_false_eq_true, not_true_eq_false]
  refine adraw_order [(0, false), (1, false), (2, false), (3, false)] mixed (by kernel_rfl) (by kernel_rfl) (by kernel_rfl) (by with_reducible repeat (first | exact PF_retK | refine PF_thenK ?_ | refine PF_blockK ?_)) ?_
  simp only [wk, wt, wl, ↓reduceIte, Nat.reduceEqDiff, Nat.reduceAdd, Nat.zero_add, not_false_eq_true, not_true_eq_false, GL, Rd.len g5 underlying90]
  refine W_loop (fun tm h' => h' = h ∧ tm 0 = .int .i32 r ∧ ∃ lo hi : Int, tm 3 = .int .i64 lo ∧ tm 4 = .int .i64 hi ∧ 0 ≤ lo ∧ lo ≤ hi ∧ hi ≤ 18 ∧ (∀ j : Nat, (j : Int) < lo → rhi j < r) ∧ (∀ j : Nat, hi ≤ j → j < 18 → r < rlo j)) (fun tm _ => (intOf (tm 4) - intOf (tm 3)).toNat) ⟨rfl, (by first | rfl | (simp only [wk, wt, wl, ↓reduceIte, Nat.reduceEqDiff, Nat.reduceAdd, Nat.zero_add, not_false_eq_true, not_true_eq_false]; done) | (simp only [wk, wt, wl, ↓reduceIte, Nat.reduceEqDiff, Nat.reduceAdd, Nat.zero_add, not_false_eq_true, not_true_eq_false]; rfl)), 0, 18, (by first | rfl | (simp only [wk, wt, wl, ↓reduceIte, Nat.reduceEqDiff, Nat.reduceAdd, Nat.zero_add, not_false_eq_true, not_true_eq_false]; done) | (simp only [wk, wt, wl, ↓reduceIte, Nat.reduceEqDiff, Nat.reduceAdd, Nat.zero_add, not_false_eq_true, not_true_eq_false]; rfl)), (by first | rfl | (simp only [wk, wt, wl, ↓reduceIte, Nat.reduceEqDiff, Nat.reduceAdd, Nat.zero_add, not_false_eq_true, not_true_eq_false]; done) | (simp only [wk, wt, wl, ↓reduceIte, Nat.reduceEqDiff, Nat.reduceAdd, Nat.zero_add, not_false_eq_true, not_true_eq_false]; rfl)), by omega, by omega, by omega, fun j hj => by omega, fun j hj hk => by omega⟩ ?_
  rintro tm h' ⟨rfl, t0, lo, hi, t3, t4, b0, b1, b2, i1, i2⟩
  simp only [wk, wt, wl, ↓reduceIte, Nat.reduceEqDiff, Nat.reduceAdd, Nat.zero_add, not_false_eq_true, not_true_eq_false, t0, t3, t4]
  refine condK_dec (fun hc => ?_) (fun hc => ?_)
  · obtain ⟨m, hm⟩ : ∃ m : Nat, (lo + hi) / 2 = m := ⟨((lo + hi) / 2).toNat, by omega⟩
    have hm18 : m < 18 := by omega
    obtain ⟨A0, A1, A2⟩ := AT m hm18
    simp (disch := omega) only [wk, wt, wl, ↓reduceIte, Nat.reduceEqDiff, Nat.reduceAdd, Nat.zero_add, not_false_eq_true, not_true_eq_false, t0, t3, t4, abin_quo (P := prog) (y := 2) (by decide), IntWalk.i64_in, Int.tdiv_eq_ediv_of_nonneg]
    simp only [hm]
    simp (disch := omega) only [wk, wt, wl, ↓reduceIte, Nat.reduceEqDiff, Nat.reduceAdd, Nat.zero_add, not_false_eq_true, not_true_eq_false, GL, A0, A1, A2, Rd.index g5 underlying90 asz91 (q := .i64) (i := (m : Int)) (by omega) (by omega), arr_index underlying91 asz21, Int.reduceToNat]
    have srt : ∀ i j : Nat, i < 18 → j < 18 → i < j → rhi i < rlo j ∧ rlo i ≤ rlo j ∧ rhi i ≤ rhi j := fun i j hi hj hij => rgs_sorted ⟨i, hi⟩ ⟨j, hj⟩ hij
    refine condK_dec (fun hd => ?_) (fun hd => ?_)
    · simp only [wk, wt, wl, ↓reduceIte, Nat.reduceEqDiff, Nat.reduceAdd, Nat.zero_add, not_false_eq_true, not_true_eq_false, intOf_int]
      refine ⟨⟨t0, lo, m, t3, rfl, b0, by omega, by omega, i1, fun j hj hk => ?_⟩, by rw [t3]; simp only [intOf_int]; omega⟩
      by_cases e : j = m
      · subst e; exact hd
      · have := (srt m j (by omega) hk (by omega)).2.1; omega
    · simp (disch := omega) only [wk, wt, wl, ↓reduceIte, Nat.reduceEqDiff, Nat.reduceAdd, Nat.zero_add, not_false_eq_true, not_true_eq_false, t0, t3, t4, GL, A0, A1, A2, Rd.index g5 underlying90 asz91 (q := .i64) (i := (m : Int)) (by omega) (by omega), arr_index underlying91 asz21, Int.reduceToNat]
      refine condK_dec (fun he => ?_) (fun he => ?_)
      · simp (disch := omega) only [wk, wt, wl, ↓reduceIte, Nat.reduceEqDiff, Nat.reduceAdd, Nat.zero_add, not_false_eq_true, not_true_eq_false, intOf_int, IntWalk.i64_in]
        refine ⟨⟨t0, m + 1, hi, rfl, t4, by omega, by omega, by omega, fun j hj => ?_, i2⟩, by rw [t4]; simp only [intOf_int]; omega⟩
        by_cases e : j = m
        · subst e; exact he
        · have := (srt j m (by omega) (by omega) (by omega)).2.2; omega
      · have hr := rgs_range ⟨m, hm18⟩
        simp only at hr
        simp (disch := omega) only [wk, wt, wl, ↓reduceIte, Nat.reduceEqDiff, Nat.reduceAdd, Nat.zero_add, not_false_eq_true, not_true_eq_false, t0, t3, t4, GL, A0, A1, A2, Rd.index g5 underlying90 asz91 (q := .i64) (i := (m : Int)) (by omega) (by omega), arr_index underlying91 asz21, Int.reduceToNat, aconv, IntWalk.i64_in]
        rw [width_in hm18 (by omega) (by omega)]
        exact ⟨rfl, trivial⟩
  · simp only [wk, wt, wl, ↓reduceIte, Nat.reduceEqDiff, Nat.reduceAdd, Nat.zero_add, not_false_eq_true, not_true_eq_false]
    rw [width_out fun m hm => ?_]
    · exact ⟨rfl, trivial⟩
    · by_cases e : (m : Int) < lo
      · exact .inr (i1 m e)
      · exact .inl (i2 m (by omega) hm)
end Go.Proofs.YtefpalmihdbmiaaDoor.Am
end
section
/- Bytes and runes in plain terms: which bytes a rune has, with which rune bytes begin; no program in sight. -/
set_option linter.unusedSimpArgs false
set_option linter.unusedVariables false
set_option maxRecDepth 20000
set_option maxHeartbeats 2000000
namespace Go.Proofs.YtefpalmihdbmiaaDoor.Am
open Go Go.RowKit Go.Proofs.Tryd
def isB (x : Int) : Prop := 0 ≤ x ∧ x ≤ 255
def fixR (r : Int) : Int := if validB r = true then r else 65533
def encV (n : Int) : List Int := if n < 128 then [n] else if n < 2048 then [192 + n / 64, 128 + n % 64] else if n < 65536 then [224 + n / 4096, 128 + n / 64 % 64, 128 + n % 64] else [240 + n / 262144, 128 + n / 4096 % 64, 128 + n / 64 % 64, 128 + n % 64]
def encR (r : Int) : List Int := encV (fixR r)
def leadN (c : Int) : Nat := if c < 128 then 1 else if c < 194 ∨ 244 < c then 0 else if c < 224 then 2 else if c < 240 then 3 else 4
def leadV (c : Int) : Int := if c < 128 then c else if c < 194 ∨ 244 < c then 0 else if c < 224 then c % 32 else if c < 240 then c % 16 else c % 8
def leadLo (c : Int) : Int := if c = 224 then 160 else if c = 240 then 144 else 128
def leadHi (c : Int) : Int := if c = 237 then 159 else if c = 244 then 143 else 191
def goZ (n : Nat) : Nat → Int → Int → Int → List Int → Option (Int × Nat)
  | 0, v, _, _, _ => some (v, n)
  | _ + 1, _, _, _, [] => none
  | k + 1, v, lo, hi, x :: t => if x < lo ∨ hi < x then some (65533, 1) else goZ n k (v * 64 + x % 64) 128 191 t
def nextZ : List Int → Option (Int × Nat)
  | [] => none
  | c :: t => if leadN c = 0 then some (65533, 1) else goZ (leadN c) (leadN c - 1) (leadV c) (leadLo c) (leadHi c) t
/-- A scalar with whose bytes the row begins. -/
def wholeZ (b : List Int) : Option (Int × Nat) :=
  match nextZ b with
  | some p => if p = (65533, 1) then none else some p
  | none => none
theorem fixR_valid {r : Int} : validB (fixR r) = true := by
  unfold fixR; split
  · assumption
  · decide
theorem fixR_isR {r : Int} : isR (fixR r) := by
  have := fixR_valid (r := r)
  simp only [validB, decide_eq_true_eq] at this
  unfold isR; omega
theorem leadN_le {c : Int} : leadN c ≤ 4 := by
  unfold leadN; repeat' split
  all_goals omega
theorem lead_cases (c : Int) (h0 : 0 ≤ c) (h1 : c ≤ 255) : (leadN c = 0 ∧ 128 ≤ c ∧ (c < 194 ∨ 244 < c)) ∨ (leadN c = 1 ∧ c < 128 ∧ leadV c = c) ∨ (leadN c = 2 ∧ 194 ≤ c ∧ c < 224 ∧ leadV c = c % 32 ∧ leadLo c = 128 ∧ leadHi c = 191) ∨
    (leadN c = 3 ∧ 224 ≤ c ∧ c < 240 ∧ leadV c = c % 16 ∧ ((c = 224 ∧ leadLo c = 160 ∧ leadHi c = 191) ∨ (c = 237 ∧ leadLo c = 128 ∧ leadHi c = 159) ∨ (c ≠ 224 ∧ c ≠ 237 ∧ leadLo c = 128 ∧ leadHi c = 191))) ∨
    (leadN c = 4 ∧ 240 ≤ c ∧ c ≤ 244 ∧ leadV c = c % 8 ∧ ((c = 240 ∧ leadLo c = 144 ∧ leadHi c = 191) ∨ (c = 244 ∧ leadLo c = 128 ∧ leadHi c = 143) ∨ (c ≠ 240 ∧ c ≠ 244 ∧ leadLo c = 128 ∧ leadHi c = 191))) := by
  unfold leadN leadV leadLo leadHi
  repeat' split
  all_goals omega
theorem lead_lo {c : Int} : (leadLo c = 128 ∨ leadLo c = 144 ∨ leadLo c = 160) ∧ leadLo c ≤ leadHi c ∧ leadHi c ≤ 191 ∧ 128 ≤ leadHi c := by
  unfold leadLo leadHi
  repeat' split
  all_goals omega
theorem goZ_le {n k : Nat} : ∀ {v lo hi : Int} {l : List Int} {p : Int × Nat}, goZ n k v lo hi l = some p → p = (65533, 1) ∨ (p.2 = n ∧ k ≤ l.length) := by
  induction k with
  | zero => intro v lo hi l p h; simp only [goZ, Option.some.injEq] at h; subst h; exact .inr ⟨rfl, Nat.zero_le _⟩
  | succ k ih =>
    intro v lo hi l p h
    cases l with
    | nil => simp [goZ] at h
    | cons x t =>
      simp only [goZ] at h
      split at h
      · simp only [Option.some.injEq] at h; exact .inl h.symm
      · exact (ih h).imp id fun e => ⟨e.1, by simp only [List.length_cons]; omega⟩
theorem goZ_app {n k : Nat} : ∀ {v lo hi : Int} {l t : List Int} {p : Int × Nat}, goZ n k v lo hi l = some p → goZ n k v lo hi (l ++ t) = some p := by
  induction k with
  | zero => intro v lo hi l t p h; simpa [goZ] using h
  | succ k ih =>
    intro v lo hi l t p h
    cases l with
    | nil => simp [goZ] at h
    | cons x l =>
      simp only [goZ, List.cons_append] at h ⊢
      split
      · rename_i hc; rw [if_pos hc] at h; exact h
      · rename_i hc; rw [if_neg hc] at h; exact ih h
theorem goZ_none {n k : Nat} : ∀ {v lo hi : Int} {l : List Int}, goZ n k v lo hi l = none → l.length < k ∧ ∀ x, x ∈ l.drop 1 → 128 ≤ x ∧ x ≤ 191 := by
  induction k with
  | zero => intro v lo hi l h; simp [goZ] at h
  | succ k ih =>
    intro v lo hi l h
    cases l with
    | nil => exact ⟨by simp, by simp⟩
    | cons x l =>
      simp only [goZ] at h
      split at h
      · cases h
      · obtain ⟨h1, h2⟩ := ih h
        refine ⟨by simp only [List.length_cons]; omega, fun y hy => ?_⟩
        cases l with
        | nil => simp at hy
        | cons z l =>
          rcases List.mem_cons.1 hy with rfl | hy
          · cases k with
            | zero => simp [goZ] at h
            | succ k =>
              simp only [goZ] at h
              split at h
              · cases h
              · omega
          · exact h2 y hy
theorem nextZ_app {b t : List Int} {p : Int × Nat} (h : nextZ b = some p) : nextZ (b ++ t) = some p := by
  cases b with
  | nil => simp [nextZ] at h
  | cons c b =>
    simp only [nextZ, List.cons_append] at h ⊢
    split
    · rename_i hc; rw [if_pos hc] at h; exact h
    · rename_i hc; rw [if_neg hc] at h; exact goZ_app h
theorem nextZ_le {b : List Int} {r : Int} {n : Nat} (h : nextZ b = some (r, n)) : 1 ≤ n ∧ n ≤ b.length ∧ n ≤ 4 := by
  cases b with
  | nil => simp [nextZ] at h
  | cons c b =>
    simp only [nextZ] at h
    have := leadN_le (c := c)
    split at h
    · simp only [Option.some.injEq, Prod.mk.injEq] at h; simp only [List.length_cons]; omega
    · rcases goZ_le h with e | ⟨e1, e2⟩
      · simp only [Prod.mk.injEq] at e; simp only [List.length_cons]; omega
      · simp only at e1; simp only [List.length_cons]; omega
theorem nextZ_none {b : List Int} (h : nextZ b = none) : b.length ≤ 3 ∧ ∀ x, x ∈ b.drop 1 → 128 ≤ x ∧ x ≤ 191 := by
  cases b with
  | nil => exact ⟨by simp, by simp⟩
  | cons c b =>
    simp only [nextZ] at h
    have hl := leadN_le (c := c)
    split at h
    · cases h
    · obtain ⟨h1, h2⟩ := goZ_none h
      refine ⟨by simp only [List.length_cons]; omega, fun x hx => ?_⟩
      simp only [List.drop_succ_cons, List.drop_zero] at hx
      cases b with
      | nil => simp at hx
      | cons y b =>
        rcases List.mem_cons.1 hx with rfl | hx
        · have := lead_lo (c := c)
          cases hk : leadN c - 1 with
          | zero => rw [hk] at h; simp [goZ] at h
          | succ k =>
            rw [hk] at h
            simp only [goZ] at h
            split at h
            · cases h
            · omega
        · exact h2 x hx
/-- A rune's bytes are read as it. -/
theorem nextZ_enc {r : Int} (hr : validB r = true) (t : List Int) : nextZ (encV r ++ t) = some (r, (encV r).length) := by
  simp only [validB, decide_eq_true_eq] at hr
  unfold encV
  split
  · have : leadN r = 1 := by unfold leadN; rw [if_pos (by omega)]
    have hv : leadV r = r := by unfold leadV; rw [if_pos (by omega)]
    simp [nextZ, this, hv, goZ]
  · split
    · rcases lead_cases (192 + r / 64) (by omega) (by omega) with h | h | h | h | h
      · omega
      · omega
      · obtain ⟨h1, _, _, h2, h3, h4⟩ := h
        simp only [nextZ, List.cons_append, List.nil_append, h1, h2, h3, h4]
        simp only [goZ, Nat.reduceEqDiff, if_false]
        rw [if_neg (by omega)]
        simp only [Option.some.injEq, Prod.mk.injEq, List.length_cons, List.length_nil, and_true]; omega
      · omega
      · omega
    · split
      · rcases lead_cases (224 + r / 4096) (by omega) (by omega) with h | h | h | h | h
        · omega
        · omega
        · omega
        · obtain ⟨h1, _, _, h2, h3⟩ := h
          simp only [nextZ, List.cons_append, List.nil_append, h1, h2]
          simp only [goZ, Nat.reduceEqDiff, if_false]
          rw [if_neg (by omega), if_neg (by omega)]
          simp only [Option.some.injEq, Prod.mk.injEq, List.length_cons, List.length_nil, and_true]; omega
        · omega
      · rcases lead_cases (240 + r / 262144) (by omega) (by omega) with h | h | h | h | h
        · omega
        · omega
        · omega
        · omega
        · obtain ⟨h1, _, _, h2, h3⟩ := h
          simp only [nextZ, List.cons_append, List.nil_append, h1, h2]
          simp only [goZ, Nat.reduceEqDiff, if_false]
          rw [if_neg (by omega), if_neg (by omega), if_neg (by omega)]
          simp only [Option.some.injEq, Prod.mk.injEq, List.length_cons, List.length_nil, and_true]; omega
/-- What is read are a rune's bytes, or one that is none. -/
theorem nextZ_exact {b : List Int} {r : Int} {n : Nat} (hb : ∀ x, x ∈ b → isB x) (h : nextZ b = some (r, n)) (hg : (r, n) ≠ (65533, 1)) : validB r = true ∧ ∃ t, b = encV r ++ t ∧ n = (encV r).length := by
  cases b with
  | nil => simp [nextZ] at h
  | cons c b =>
    have hc := hb c (by simp)
    simp only [nextZ] at h
    rcases lead_cases c hc.1 hc.2 with g | g | g | g | g
    · rw [if_pos g.1] at h; simp only [Option.some.injEq] at h; exact absurd h.symm hg
    · obtain ⟨g1, g2, g3⟩ := g
      simp only [g1, g3, goZ, Nat.reduceEqDiff, if_false, Option.some.injEq, Prod.mk.injEq] at h
      obtain ⟨rfl, rfl⟩ := h
      unfold isB at hc
      refine ⟨by simp only [validB, decide_eq_true_eq]; omega, b, ?_, ?_⟩ <;> · unfold encV; rw [if_pos g2]; rfl
    · obtain ⟨g1, g2, g3, g4, g5, g6⟩ := g
      simp only [g1, g4, g5, g6, Nat.reduceEqDiff, if_false, Nat.reduceSub] at h
      cases b with
      | nil => simp [goZ] at h
      | cons x b =>
        have hx := hb x (by simp)
        unfold isB at hc hx
        simp only [goZ] at h
        split at h
        · simp only [Option.some.injEq] at h; exact absurd h.symm hg
        · simp only [Option.some.injEq, Prod.mk.injEq] at h
          obtain ⟨rfl, rfl⟩ := h
          have e : encV (c % 32 * 64 + x % 64) = [c, x] := by
            unfold encV; rw [if_neg (by omega), if_pos (by omega)]
            simp only [List.cons.injEq, and_true]; omega
          exact ⟨by simp only [validB, decide_eq_true_eq]; omega, b, by rw [e]; rfl, by rw [e]; rfl⟩
    · obtain ⟨g1, g2, g3, g4, g5⟩ := g
      simp only [g1, g4, Nat.reduceEqDiff, if_false, Nat.reduceSub] at h
      cases b with
      | nil => simp [goZ] at h
      | cons x b =>
        have hx := hb x (by simp)
        simp only [goZ] at h
        split at h
        · simp only [Option.some.injEq] at h; exact absurd h.symm hg
        · rename_i hx2
          cases b with
          | nil => simp [goZ] at h
          | cons y b =>
            have hy := hb y (by simp)
            unfold isB at hc hx hy
            simp only [goZ] at h
            split at h
            · simp only [Option.some.injEq] at h; exact absurd h.symm hg
            · simp only [Option.some.injEq, Prod.mk.injEq] at h
              obtain ⟨rfl, rfl⟩ := h
              have e : encV ((c % 16 * 64 + x % 64) * 64 + y % 64) = [c, x, y] := by
                unfold encV; rw [if_neg (by omega), if_neg (by omega), if_pos (by omega)]
                simp only [List.cons.injEq, and_true]; omega
              exact ⟨by simp only [validB, decide_eq_true_eq]; omega, b, by rw [e]; rfl, by rw [e]; rfl⟩
    · obtain ⟨g1, g2, g3, g4, g5⟩ := g
      simp only [g1, g4, Nat.reduceEqDiff, if_false, Nat.reduceSub] at h
      cases b with
      | nil => simp [goZ] at h
      | cons x b =>
        have hx := hb x (by simp)
        simp only [goZ] at h
        split at h
        · simp only [Option.some.injEq] at h; exact absurd h.symm hg
        · rename_i hx2
          cases b with
          | nil => simp [goZ] at h
          | cons y b =>
            have hy := hb y (by simp)
            simp only [goZ] at h
            split at h
            · simp only [Option.some.injEq] at h; exact absurd h.symm hg
            · cases b with
              | nil => simp [goZ] at h
              | cons z b =>
                have hz := hb z (by simp)
                unfold isB at hc hx hy hz
                simp only [goZ] at h
                split at h
                · simp only [Option.some.injEq] at h; exact absurd h.symm hg
                · simp only [Option.some.injEq, Prod.mk.injEq] at h
                  obtain ⟨rfl, rfl⟩ := h
                  have e : encV (((c % 8 * 64 + x % 64) * 64 + y % 64) * 64 + z % 64) = [c, x, y, z] := by
                    unfold encV; rw [if_neg (by omega), if_neg (by omega), if_neg (by omega)]
                    simp only [List.cons.injEq, and_true]; omega
                  exact ⟨by simp only [validB, decide_eq_true_eq]; omega, b, by rw [e]; rfl, by rw [e]; rfl⟩
/-- The ends of what may stand behind bytes tell whether more may make a scalar. -/
def endsT : List Int := [128, 143, 144, 159, 160, 191]
theorem goZ_ext {n k : Nat} : ∀ {v lo hi : Int} {l : List Int}, goZ n k v lo hi l = none → (lo = 128 ∨ lo = 144 ∨ lo = 160) → lo ≤ hi → ∃ x, x ∈ endsT ∧ ((k = l.length + 1 ∧ ∃ r, goZ n k v lo hi (l ++ [x]) = some (r, n)) ∨ (l.length + 1 < k ∧ goZ n k v lo hi (l ++ [x]) = none)) := by
  induction k with
  | zero => intro v lo hi l h; simp [goZ] at h
  | succ k ih =>
    intro v lo hi l h hlo hhi
    cases l with
    | nil =>
      refine ⟨lo, by rcases hlo with rfl | rfl | rfl <;> decide, ?_⟩
      simp only [List.nil_append, goZ]
      rw [if_neg (by omega)]
      cases k with
      | zero => exact .inl ⟨rfl, _, rfl⟩
      | succ k => exact .inr ⟨by simp, by simp [goZ]⟩
    | cons y l =>
      simp only [goZ] at h
      split at h
      · cases h
      · rename_i hy
        obtain ⟨x, hx, hh⟩ := ih h (.inl rfl) (by omega)
        refine ⟨x, hx, ?_⟩
        simp only [List.cons_append, goZ, List.length_cons]
        rw [if_neg hy]
        rcases hh with ⟨e, g⟩ | ⟨e, g⟩
        · exact .inl ⟨by omega, g⟩
        · exact .inr ⟨by omega, g⟩
def extB (b : List Int) (x : Int) : Prop := (∃ r, wholeZ (b ++ [x]) = some (r, b.length + 1)) ∨ (b.length + 1 < 4 ∧ nextZ (b ++ [x]) = none ∧ b ++ [x] ≠ [])
theorem ext_iff {b : List Int} : (∃ x, x ∈ endsT ∧ extB b x) ↔ (b ≠ [] ∧ nextZ b = none) := by
  constructor
  · rintro ⟨x, hx, h⟩
    cases hn : nextZ b with
    | some p =>
      obtain ⟨r, n⟩ := p
      have h1 := nextZ_app (t := [x]) hn
      have h2 := nextZ_le hn
      rcases h with ⟨r', h⟩ | ⟨_, h, _⟩
      · simp only [wholeZ, h1] at h
        split at h
        · cases h
        · simp only [Option.some.injEq, Prod.mk.injEq] at h; omega
      · rw [h1] at h; cases h
    | none =>
      refine ⟨?_, rfl⟩
      rintro rfl
      simp only [endsT, List.mem_cons, List.not_mem_nil, or_false] at hx
      rcases hx with rfl | rfl | rfl | rfl | rfl | rfl <;> simp [extB, wholeZ, nextZ, leadN] at h
  · rintro ⟨hne, hn⟩
    cases b with
    | nil => exact absurd rfl hne
    | cons c b =>
      have hl := lead_lo (c := c)
      simp only [nextZ] at hn
      split at hn
      · cases hn
      · rename_i h0
        have hle := leadN_le (c := c)
        obtain ⟨x, hx, hh⟩ := goZ_ext hn hl.1 hl.2.1
        refine ⟨x, hx, ?_⟩
        rcases hh with ⟨e, r, g⟩ | ⟨e, g⟩
        · refine .inl ⟨r, ?_⟩
          simp only [wholeZ, nextZ, List.cons_append, if_neg h0, g]
          rw [if_neg (by simp only [Prod.mk.injEq]; omega)]
          simp only [List.length_cons, Option.some.injEq, Prod.mk.injEq, true_and]; omega
        · refine .inr ⟨by simp only [List.length_cons]; omega, ?_, by simp⟩
          simp only [nextZ, List.cons_append, if_neg h0, g]
end Go.Proofs.YtefpalmihdbmiaaDoor.Am
end
