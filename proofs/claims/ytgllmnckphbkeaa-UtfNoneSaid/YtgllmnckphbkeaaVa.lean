/- Scalars; whether two rows of runes are the same: contracts of utf.Valid and of the document's Valid and Runes, by walks. -/
import Derived.Test.YtgllmnckphbkeaaAmF
import Derived.Laws.BitsLemmas
set_option linter.unusedSimpArgs false
set_option linter.unusedVariables false
set_option maxHeartbeats 1000000
namespace Go.Proofs.Ytgllmnckphbkeaa.Am
open Go Go.RowKit Go.Proofs.Try
def isR (r : Int) : Prop := -2147483648 ≤ r ∧ r ≤ 2147483647
def validB (r : Int) : Bool := decide ((0 ≤ r ∧ r < 55296) ∨ (57343 < r ∧ r ≤ 1114111))
theorem valid_ok {r : Int} {h : Heap} (h0 : isR r) : ACalls prog 14 #[.int .i32 r] h (fun v h' => v = .bool (validB r) ∧ h' = h) := by
  obtain ⟨h0, h1⟩ := h0
  refine acalls_of_W func14 rfl (by kernel_rfl) (by kernel_rfl) (by simp [ntmps14]) ?_
  simp only [wk, wt, wl, ↓reduceIte, Nat.reduceEqDiff, Nat.reduceAdd, Nat.zero_add, not_false_eq_true, not_true_eq_false, aconv, IntKind.wrap_u32]
  repeat' (first
      | (with_reducible refine condK_dec (fun hc => ?_) (fun hc => ?_) <;> simp only [wk, wt, wl, ↓reduceIte, Nat.reduceEqDiff, Nat.reduceAdd, Nat.zero_add, not_false_eq_true, not_true_eq_false, aconv, IntKind.wrap_u32, hc])
      | (with_reducible refine condK_split (fun hc => ?_) (fun hc => ?_) <;> simp only [wk, wt, wl, ↓reduceIte, Nat.reduceEqDiff, Nat.reduceAdd, Nat.zero_add, not_false_eq_true, not_true_eq_false, aconv, IntKind.wrap_u32, hc])
      | (with_reducible refine gateO_dec (fun hc => ?_) (fun hc => ?_) <;> simp only [wk, wt, wl, ↓reduceIte, Nat.reduceEqDiff, Nat.reduceAdd, Nat.zero_add, not_false_eq_true, not_true_eq_false, aconv, IntKind.wrap_u32, hc])
      | (with_reducible refine gateO_decF (fun hc => ?_) (fun hc => ?_) <;> simp only [wk, wt, wl, ↓reduceIte, Nat.reduceEqDiff, Nat.reduceAdd, Nat.zero_add, not_false_eq_true, not_true_eq_false, aconv, IntKind.wrap_u32, hc])
      | (with_reducible refine gateO_boolT (fun hc => ?_) (fun hc => ?_) <;> simp only [wk, wt, wl, ↓reduceIte, Nat.reduceEqDiff, Nat.reduceAdd, Nat.zero_add, not_false_eq_true, not_true_eq_false, aconv, IntKind.wrap_u32, hc])
      | (with_reducible refine gateO_boolF (fun hc => ?_) (fun hc => ?_) <;> simp only [wk, wt, wl, ↓reduceIte, Nat.reduceEqDiff, Nat.reduceAdd, Nat.zero_add, not_false_eq_true, not_true_eq_false, aconv, IntKind.wrap_u32, hc]))
  all_goals (simp only [validB, and_true, Value.bool.injEq, eqT, eqF, decide_eq_decide]; omega)
theorem refValid_ok {r : Int} {h : Heap} (h0 : isR r) : ACalls prog 15 #[.int .i32 r] h (fun v h' => v = .bool (validB r) ∧ h' = h) := by
  obtain ⟨h0, h1⟩ := h0
  refine acalls_of_W func15 rfl (by kernel_rfl) (by kernel_rfl) (by simp [ntmps15]) ?_
  simp only [wk, wt, wl, ↓reduceIte, Nat.reduceEqDiff, Nat.reduceAdd, Nat.zero_add, not_false_eq_true, not_true_eq_false]
  repeat' (first
      | (with_reducible refine condK_dec (fun hc => ?_) (fun hc => ?_) <;> simp only [wk, wt, wl, ↓reduceIte, Nat.reduceEqDiff, Nat.reduceAdd, Nat.zero_add, not_false_eq_true, not_true_eq_false, hc])
      | (with_reducible refine condK_split (fun hc => ?_) (fun hc => ?_) <;> simp only [wk, wt, wl, ↓reduceIte, Nat.reduceEqDiff, Nat.reduceAdd, Nat.zero_add, not_false_eq_true, not_true_eq_false, hc])
      | (with_reducible refine gateO_dec (fun hc => ?_) (fun hc => ?_) <;> simp only [wk, wt, wl, ↓reduceIte, Nat.reduceEqDiff, Nat.reduceAdd, Nat.zero_add, not_false_eq_true, not_true_eq_false, hc])
      | (with_reducible refine gateO_decF (fun hc => ?_) (fun hc => ?_) <;> simp only [wk, wt, wl, ↓reduceIte, Nat.reduceEqDiff, Nat.reduceAdd, Nat.zero_add, not_false_eq_true, not_true_eq_false, hc])
      | (with_reducible refine gateO_boolT (fun hc => ?_) (fun hc => ?_) <;> simp only [wk, wt, wl, ↓reduceIte, Nat.reduceEqDiff, Nat.reduceAdd, Nat.zero_add, not_false_eq_true, not_true_eq_false, hc])
      | (with_reducible refine gateO_boolF (fun hc => ?_) (fun hc => ?_) <;> simp only [wk, wt, wl, ↓reduceIte, Nat.reduceEqDiff, Nat.reduceAdd, Nat.zero_add, not_false_eq_true, not_true_eq_false, hc]))
  all_goals (simp only [validB, and_true, Value.bool.injEq, eqT, eqF, decide_eq_decide]; omega)
def intOf : Value → Int
  | .int _ x => x
  | _ => 0
theorem intOf_int {k : IntKind} {x : Int} : intOf (.int k x) = x := rfl
theorem getD_ext {xs ys : List Int} (hl : xs.length = ys.length) (h : ∀ i, i < xs.length → xs.getD i 0 = ys.getD i 0) : xs = ys := by
  refine List.ext_getElem hl fun i h1 h2 => ?_
  have := h i h1
  simpa [h1, h2] using this
theorem runes_ok {a b : Value} {xs ys : List Int} {h : Heap} (ha : RdI prog h .i32 a xs) (hb : RdI prog h .i32 b ys) (hlen : xs.length < 9223372036854775807) : ACalls prog 10 #[a, b] h (fun v h' => v = .bool (decide (xs = ys)) ∧ h' = h) := by
  refine acalls_of_W func10 rfl (by kernel_rfl) (by kernel_rfl) (by simp [ntmps10]) ?_
  simp only [wk, wt, wl, ↓reduceIte, Nat.reduceEqDiff, Nat.reduceAdd, Nat.zero_add, not_false_eq_true, not_true_eq_false, Rd.len ha underlying24, Rd.len hb underlying24]
  refine condK_dec (fun hc => ?_) (fun hc => ?_)
  · simp only [wk, wt, wl, ↓reduceIte, Nat.reduceEqDiff, Nat.reduceAdd, Nat.zero_add, not_false_eq_true, not_true_eq_false]
    refine ⟨?_, trivial⟩
    have : ¬ xs = ys := fun e => hc (by rw [e])
    simp [this]
  · have hl : xs.length = ys.length := by omega
    simp only [wk, wt, wl, ↓reduceIte, Nat.reduceEqDiff, Nat.reduceAdd, Nat.zero_add, not_false_eq_true, not_true_eq_false]
    refine W_loop (fun tm h' => h' = h ∧ tm 0 = a ∧ tm 1 = b ∧ ∃ i : Nat, tm 5 = .int .i64 i ∧ i ≤ xs.length ∧ ∀ j, j < i → xs.getD j 0 = ys.getD j 0) (fun tm _ => (xs.length - intOf (tm 5)).toNat) ⟨rfl, by simp only [wk, wt, wl, ↓reduceIte, Nat.reduceEqDiff, Nat.reduceAdd, Nat.zero_add, not_false_eq_true, not_true_eq_false], by simp only [wk, wt, wl, ↓reduceIte, Nat.reduceEqDiff, Nat.reduceAdd, Nat.zero_add, not_false_eq_true, not_true_eq_false], 0, by simp only [wk, wt, wl, ↓reduceIte, Nat.reduceEqDiff, Nat.reduceAdd, Nat.zero_add, not_false_eq_true, not_true_eq_false]; rfl, by omega, fun j hj => by omega⟩ ?_
    rintro tm h' ⟨rfl, h0, h1, i, h5, hi, hj⟩
    simp only [wk, wt, wl, ↓reduceIte, Nat.reduceEqDiff, Nat.reduceAdd, Nat.zero_add, not_false_eq_true, not_true_eq_false, h0, h1, h5, Rd.len ha underlying24]
    refine condK_dec (fun hc => ?_) (fun hc => ?_)
    · simp only [wk, wt, wl, ↓reduceIte, Nat.reduceEqDiff, Nat.reduceAdd, Nat.zero_add, not_false_eq_true, not_true_eq_false]
      refine adraw_order [(0, false), (1, false), (2, false), (3, false), (4, false), (5, false), (6, false), (7, false), (8, false)] mixed (by kernel_rfl) (by kernel_rfl) (by kernel_rfl) (by repeat (first | exact PF_retK | refine PF_thenK ?_ | refine PF_blockK ?_)) ?_
      simp only [wk, wt, wl, ↓reduceIte, Nat.reduceEqDiff, Nat.reduceAdd, Nat.zero_add, not_false_eq_true, not_true_eq_false, h0, h1, h5, Rd.index ha underlying24 asz21 (q := .i64) (i := i) (by omega) (by omega), Rd.index hb underlying24 asz21 (q := .i64) (i := i) (by omega) (by omega), RdI.at ha underlying21 rfl (i := i) (by omega), RdI.at hb underlying21 rfl (i := i) (by omega)]
      refine condK_dec (fun hd => ?_) (fun hd => ?_)
      · simp only [wk, wt, wl, ↓reduceIte, Nat.reduceEqDiff, Nat.reduceAdd, Nat.zero_add, not_false_eq_true, not_true_eq_false]
        have : ¬ xs = ys := fun e => hd (by rw [e])
        simp [this]
      · simp (disch := omega) only [wk, wt, wl, ↓reduceIte, Nat.reduceEqDiff, Nat.reduceAdd, Nat.zero_add, not_false_eq_true, not_true_eq_false, h0, h1, h5, IntWalk.i64_in, intOf_int]
        refine ⟨⟨i + 1, by simp, by omega, fun j hj' => ?_⟩, by omega⟩
        by_cases e : j = i
        · subst e; exact Decidable.not_not.1 hd
        · exact hj j (by omega)
    · simp only [wk, wt, wl, ↓reduceIte, Nat.reduceEqDiff, Nat.reduceAdd, Nat.zero_add, not_false_eq_true, not_true_eq_false]
      have : xs = ys := getD_ext hl fun j hj' => hj j (by omega)
      simp [this]
end Go.Proofs.Ytgllmnckphbkeaa.Am
