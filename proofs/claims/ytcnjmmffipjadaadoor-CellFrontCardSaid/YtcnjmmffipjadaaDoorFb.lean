/- What is shown of a rune: contracts of cell.Show and of the document's Show, by walks; two rows of runes compared. -/
import Derived.Test.YtcnjmmffipjadaaDoorFa
set_option linter.unusedSimpArgs false
set_option linter.unusedVariables false
set_option maxHeartbeats 1000000
namespace Go.Proofs.YtcnjmmffipjadaaDoor.Am
open Go Go.RowKit Go.Proofs.Tryd
def showL (r : Int) : List Int := if ctlB r = true then (if 64 ≤ r then [94, r - 64] else [94, r + 64]) else if (128 ≤ r ∧ r < 160) ∨ validB r = false then [65533] else [r]
theorem xor64 {r : Int} (h0 : 0 ≤ r) (h1 : r < 32) : bits .xor .i32 r 64 = r + 64 := by
  have : ∀ n : Fin 32, bits .xor .i32 (n.val : Int) 64 = (n.val : Int) + 64 := by decide
  have := this ⟨r.toNat, by omega⟩
  simp only [Int.toNat_of_nonneg h0] at this
  exact this
theorem xor64b : bits .xor .i32 127 64 = 63 := by decide
theorem showL_ctl {r : Int} (h0 : 0 ≤ r) (h1 : r < 32) : showL r = [94, r + 64] := by
  have : ctlB r = true := by simp [ctlB]; omega
  simp only [showL, this, if_true]; rw [if_neg (by omega)]
theorem showL_del : showL 127 = [94, 63] := by decide
theorem not_ctl {r : Int} (h1 : ¬ (0 ≤ r ∧ r < 32)) (h2 : ¬ r = 127) : ctlB r = false := by simp [ctlB]; omega
theorem showL_c1 {r : Int} (h0 : 128 ≤ r) (h1 : r < 160) : showL r = [65533] := by
  simp only [showL, not_ctl (r := r) (by omega) (by omega), Bool.false_eq_true, if_false]; rw [if_pos (.inl ⟨h0, h1⟩)]
theorem showL_bad {r : Int} (h1 : ¬ (0 ≤ r ∧ r < 32)) (h2 : ¬ r = 127) (hv : (!validB r) = true) : showL r = [65533] := by
  simp only [showL, not_ctl h1 h2, Bool.false_eq_true, if_false]; rw [if_pos (.inr (by simpa using hv))]
theorem showL_self {r : Int} (h1 : ¬ (0 ≤ r ∧ r < 32)) (h2 : ¬ r = 127) (h3 : ¬ (128 ≤ r ∧ r < 160)) (hv : (!validB r) = false) : showL r = [r] := by
  simp only [showL, not_ctl h1 h2, Bool.false_eq_true, if_false]; rw [if_neg (fun e => e.elim h3 (fun e => by simp [e] at hv))]
theorem show_ok {r : Int} {h : Heap} (h0 : isR r) : ACalls prog 13 #[.int .i32 r] h (fun v h' => v = .slice (some ⟨h.size, 0, none⟩) (showL r).length ((showL r).length + 1) ∧ h' = h.new 21 ((showL r).map (Value.int .i32))) := by
  refine acalls_of_W func13 rfl (by kernel_rfl) (by kernel_rfl) (by simp [ntmps13]) ?_
  simp only [wk, wt, wl, ↓reduceIte, Nat.reduceEqDiff, Nat.reduceAdd, Nat.zero_add, not_false_eq_true, not_true_eq_false]
  repeat' (first
      | (with_reducible refine condK_dec (fun hc => ?_) (fun hc => ?_) <;> simp only [wk, wt, wl, ↓reduceIte, Nat.reduceEqDiff, Nat.reduceAdd, Nat.zero_add, not_false_eq_true, not_true_eq_false, hc])
      | (with_reducible refine condK_split (fun hc => ?_) (fun hc => ?_) <;> simp only [wk, wt, wl, ↓reduceIte, Nat.reduceEqDiff, Nat.reduceAdd, Nat.zero_add, not_false_eq_true, not_true_eq_false, hc])
      | (with_reducible refine gateO_dec (fun hc => ?_) (fun hc => ?_) <;> simp only [wk, wt, wl, ↓reduceIte, Nat.reduceEqDiff, Nat.reduceAdd, Nat.zero_add, not_false_eq_true, not_true_eq_false, hc])
      | (with_reducible refine gateO_decF (fun hc => ?_) (fun hc => ?_) <;> simp only [wk, wt, wl, ↓reduceIte, Nat.reduceEqDiff, Nat.reduceAdd, Nat.zero_add, not_false_eq_true, not_true_eq_false, hc])
      | (with_reducible refine gateO_boolT (fun hc => ?_) (fun hc => ?_) <;> simp only [wk, wt, wl, ↓reduceIte, Nat.reduceEqDiff, Nat.reduceAdd, Nat.zero_add, not_false_eq_true, not_true_eq_false, hc])
      | (with_reducible refine gateO_boolF (fun hc => ?_) (fun hc => ?_) <;> simp only [wk, wt, wl, ↓reduceIte, Nat.reduceEqDiff, Nat.reduceAdd, Nat.zero_add, not_false_eq_true, not_true_eq_false, hc])
      | (with_reducible refine (valid_ok h0).use_pure ?_; simp only [wk, wt, wl, ↓reduceIte, Nat.reduceEqDiff, Nat.reduceAdd, Nat.zero_add, not_false_eq_true, not_true_eq_false]))
  all_goals first
    | (rw [showL_del, xor64b]; exact ⟨rfl, rfl⟩)
    | (rw [showL_ctl (by omega) (by omega), xor64 (by omega) (by omega)]; exact ⟨rfl, rfl⟩)
    | (rw [showL_c1 (by omega) (by omega)]; exact ⟨rfl, rfl⟩)
    | (rw [showL_bad (by omega) (by omega) (by assumption)]; exact ⟨rfl, rfl⟩)
    | (rw [showL_self (by omega) (by omega) (by omega) (by assumption)]; exact ⟨rfl, rfl⟩)
theorem refShow_ok {r : Int} {h : Heap} (h0 : isR r) : ACalls prog 14 #[.int .i32 r] h (fun v h' => v = .slice (some ⟨h.size, 0, none⟩) (showL r).length ((showL r).length + 1) ∧ h' = h.new 21 ((showL r).map (Value.int .i32))) := by
  refine acalls_of_W func14 rfl (by kernel_rfl) (by kernel_rfl) (by simp [ntmps14]) ?_
  simp only [wk, wt, wl, ↓reduceIte, Nat.reduceEqDiff, Nat.reduceAdd, Nat.zero_add, not_false_eq_true, not_true_eq_false]
  repeat' (first
      | (with_reducible refine condK_dec (fun hc => ?_) (fun hc => ?_) <;> simp only [wk, wt, wl, ↓reduceIte, Nat.reduceEqDiff, Nat.reduceAdd, Nat.zero_add, not_false_eq_true, not_true_eq_false, hc])
      | (with_reducible refine condK_split (fun hc => ?_) (fun hc => ?_) <;> simp only [wk, wt, wl, ↓reduceIte, Nat.reduceEqDiff, Nat.reduceAdd, Nat.zero_add, not_false_eq_true, not_true_eq_false, hc])
      | (with_reducible refine gateO_dec (fun hc => ?_) (fun hc => ?_) <;> simp only [wk, wt, wl, ↓reduceIte, Nat.reduceEqDiff, Nat.reduceAdd, Nat.zero_add, not_false_eq_true, not_true_eq_false, hc])
      | (with_reducible refine gateO_decF (fun hc => ?_) (fun hc => ?_) <;> simp only [wk, wt, wl, ↓reduceIte, Nat.reduceEqDiff, Nat.reduceAdd, Nat.zero_add, not_false_eq_true, not_true_eq_false, hc])
      | (with_reducible refine gateO_boolT (fun hc => ?_) (fun hc => ?_) <;> simp only [wk, wt, wl, ↓reduceIte, Nat.reduceEqDiff, Nat.reduceAdd, Nat.zero_add, not_false_eq_true, not_true_eq_false, hc])
      | (with_reducible refine gateO_boolF (fun hc => ?_) (fun hc => ?_) <;> simp only [wk, wt, wl, ↓reduceIte, Nat.reduceEqDiff, Nat.reduceAdd, Nat.zero_add, not_false_eq_true, not_true_eq_false, hc])
      | (with_reducible refine (ctl_ok).use_pure ?_; simp only [wk, wt, wl, ↓reduceIte, Nat.reduceEqDiff, Nat.reduceAdd, Nat.zero_add, not_false_eq_true, not_true_eq_false])
      | (with_reducible refine (refValid_ok h0).use_pure ?_; simp only [wk, wt, wl, ↓reduceIte, Nat.reduceEqDiff, Nat.reduceAdd, Nat.zero_add, not_false_eq_true, not_true_eq_false]))
  all_goals first
    | (have hctl : (0 ≤ r ∧ r < 32) ∨ r = 127 := by
        have : ctlB r = true := by assumption
        simpa [ctlB] using this
       simp (disch := omega) only [IntWalk.i32_in]
       first
        | (obtain rfl : r = 127 := by omega
           rw [showL_del]; exact ⟨rfl, rfl⟩)
        | (rw [showL_ctl (by omega) (by omega)]; exact ⟨rfl, rfl⟩))
    | (have hctl : ¬ ((0 ≤ r ∧ r < 32) ∨ r = 127) := by
        have : ctlB r = false := by assumption
        simpa only [ctlB, decide_eq_false_iff_not] using this
       first
        | (rw [showL_c1 (by omega) (by omega)]; exact ⟨rfl, rfl⟩)
        | (rw [showL_bad (by omega) (by omega) (by assumption)]; exact ⟨rfl, rfl⟩)
        | (rw [showL_self (by omega) (by omega) (by omega) (by assumption)]; exact ⟨rfl, rfl⟩))
def intOf : Value → Int
  | .int _ x => x
  | _ => 0
theorem intOf_int {k : IntKind} {x : Int} : intOf (.int k x) = x := rfl
theorem getD_ext {xs ys : List Int} (hl : xs.length = ys.length) (h : ∀ i, i < xs.length → xs.getD i 0 = ys.getD i 0) : xs = ys := by
  refine List.ext_getElem hl fun i h1 h2 => ?_
  have := h i h1
  simpa [h1, h2] using this
theorem runes_ok {a b : Value} {xs ys : List Int} {h : Heap} (ha : RdI prog h .i32 a xs) (hb : RdI prog h .i32 b ys) (hlen : xs.length < 9223372036854775807) : ACalls prog 12 #[a, b] h (fun v h' => v = .bool (decide (xs = ys)) ∧ h' = h) := by
  refine acalls_of_W func12 rfl (by kernel_rfl) (by kernel_rfl) (by simp [ntmps12]) ?_
  simp only [wk, wt, wl, ↓reduceIte, Nat.reduceEqDiff, Nat.reduceAdd, Nat.zero_add, not_false_eq_true, not_true_eq_false, Rd.len ha underlying24, Rd.len hb underlying24]
  refine condK_dec (fun hc => ?_) (fun hc => ?_)
  · simp only [wk, wt, wl, ↓reduceIte, Nat.reduceEqDiff, Nat.reduceAdd, Nat.zero_add, not_false_eq_true, not_true_eq_false]
    refine ⟨?_, trivial⟩
    have : ¬ xs = ys := fun e => hc (by rw [e])
    simp [this]
  · have hl : xs.length = ys.length := by omega
    simp only [wk, wt, wl, ↓reduceIte, Nat.reduceEqDiff, Nat.reduceAdd, Nat.zero_add, not_false_eq_true, not_true_eq_false]
    refine W_loop (fun tm h' => h' = h ∧ tm 0 = a ∧ tm 1 = b ∧ ∃ i : Nat, tm 5 = .int .i64 i ∧ i ≤ xs.length ∧ ∀ j, j < i → xs.getD j 0 = ys.getD j 0) (fun tm _ => (xs.length - intOf (tm 5)).toNat) ⟨rfl, by simp only [wk, wt, wl, ↓reduceIte, Nat.reduceEqDiff, Nat.reduceAdd, Nat.zero_add, not_false_eq_true, not_true_eq_false], by simp only [wk, wt, wl, ↓reduceIte, Nat.reduceEqDiff, Nat.reduceAdd, Nat.zero_add, not_false_eq_true, not_true_eq_false], 0, by simp only [wk, wt, wl, ↓reduceIte, Nat.reduceEqDiff, Nat.reduceAdd, Nat.zero_add, not_false_eq_true, not_true_eq_false]; rfl, by omega, fun j hj => by omega⟩ ?_
    rintro tm h' ⟨rfl, h0, h1, i, h5, hi, hj⟩
    simp only [wk, wt, wl, ↓reduceIte, Nat.reduceEqDiff, Nat.reduceAdd, Nat.zero_add, not_false_eq_true, not_true_eq_false, h0, h1, h5, Rd.len ha underlying24]
    refine condK_dec (fun hc => ?_) (fun hc => ?_)
    · simp only [wk, wt, wl, ↓reduceIte, Nat.reduceEqDiff, Nat.reduceAdd, Nat.zero_add, not_false_eq_true, not_true_eq_false]
      refine adraw_order [(0, false), (1, false), (2, false), (3, false), (4, false), (5, false), (6, false), (7, false), (8, false)] mixed (by kernel_rfl) (by kernel_rfl) (by kernel_rfl) (by repeat (first | exact PF_retK | refine PF_thenK ?_ | refine PF_blockK ?_)) ?_
      simp only [wk, wt, wl, ↓reduceIte, Nat.reduceEqDiff, Nat.reduceAdd, Nat.zero_add, not_false_eq_true, not_true_eq_false, h0, h1, h5, Rd.index ha underlying24 asz21 (q := .i64) (i := i) (by omega) (by omega), Rd.index hb underlying24 asz21 (q := .i64) (i := i) (by omega) (by omega), RdI.at ha underlying21 rfl (i := i) (by omega), RdI.at hb underlying21 rfl (i := i) (by omega)]
      refine condK_dec (fun hd => ?_) (fun hd => ?_)
      · simp only [wk, wt, wl, ↓reduceIte, Nat.reduceEqDiff, Nat.reduceAdd, Nat.zero_add, not_false_eq_true, not_true_eq_false]
        have : ¬ xs = ys := fun e => hd (by rw [e])
        simp [this]
      · simp (disch := omega) only [wk, wt, wl, ↓reduceIte, Nat.reduceEqDiff, Nat.reduceAdd, Nat.zero_add, not_false_eq_true, not_true_eq_false, h0, h1, h5, IntWalk.i64_in, intOf_int]
        refine ⟨⟨i + 1, by simp, by omega, fun j hj' => ?_⟩, by omega⟩
        by_cases e : j = i
        · subst e; exact Decidable.not_not.1 hd
        · exact hj j (by omega)
    · simp only [wk, wt, wl, ↓reduceIte, Nat.reduceEqDiff, Nat.reduceAdd, Nat.zero_add, not_false_eq_true, not_true_eq_false]
      have : xs = ys := getD_ext hl fun j hj' => hj j (by omega)
      simp [this]
end Go.Proofs.YtcnjmmffipjadaaDoor.Am
