/- The bytes of runes: contracts of utf.put, utf.Encode and of the document's One and Encode, by walks. -/
import Derived.Test.YtgllmnckphbkeaaVd
set_option linter.unusedSimpArgs false
set_option linter.unusedVariables false
set_option maxHeartbeats 4000000
namespace Go.Proofs.Ytgllmnckphbkeaa.Am
open Go Go.RowKit Go.Proofs.Try
def tailB (x : Int) : Nat → List Int
  | 0 => []
  | k + 1 => (128 + x / 64 ^ k % 64) :: tailB x k
theorem encV_tail {x : Int} (h0 : 0 ≤ x) (h1 : x ≤ 1114111) : (x < 128 ∧ encV x = [x]) ∨ (128 ≤ x ∧ x < 2048 ∧ encV x = [192 + x / 64] ++ tailB x 1) ∨ (2048 ≤ x ∧ x < 65536 ∧ encV x = [224 + x / 4096] ++ tailB x 2) ∨ (65536 ≤ x ∧ encV x = [240 + x / 262144] ++ tailB x 3) := by
  unfold encV
  repeat' split
  · exact .inl ⟨by omega, rfl⟩
  · refine .inr (.inl ⟨by omega, by omega, ?_⟩); simp [tailB]
  · refine .inr (.inr (.inl ⟨by omega, by omega, ?_⟩)); simp [tailB]
  · refine .inr (.inr (.inr ⟨by omega, ?_⟩)); simp [tailB]
theorem encV_isB {x : Int} (h0 : 0 ≤ x) (h1 : x ≤ 1114111) : ∀ y, y ∈ encV x → isB y := by
  unfold encV isB
  intro y hy
  repeat' split at hy
  all_goals (simp only [List.mem_cons, List.not_mem_nil, or_false] at hy; omega)
theorem fixR_range {r : Int} : 0 ≤ fixR r ∧ fixR r ≤ 1114111 := by
  have := fixR_valid (r := r)
  simp only [validB, decide_eq_true_eq] at this
  omega
theorem encR_isB {r : Int} : ∀ y, y ∈ encR r → isB y := encV_isB fixR_range.1 fixR_range.2
theorem lenZ_range {r : Int} : 1 ≤ lenZ r ∧ lenZ r ≤ 4 := by
  have := encV_tail fixR_range.1 (fixR_range (r := r)).2
  unfold lenZ encR
  rcases this with h | h | h | h
  · rw [h.2]; simp
  · rw [h.2.2]; simp [tailB]
  · rw [h.2.2]; simp [tailB]
  · rw [h.2]; simp [tailB]
theorem shr0 {P : Program} {t : TypeId} {x : Int} (h : 0 ≤ x) : abin P .shr t (.int .i32 x) (.int .i64 0) = some (.int .i32 x) := by simp [abin, ashift]
theorem shr6 {P : Program} {t : TypeId} {x : Int} (h : 0 ≤ x) : abin P .shr t (.int .i32 x) (.int .i64 6) = some (.int .i32 (x / 64)) := by
  simp [abin, ashift, IntKind.bits, Int.fdiv_eq_ediv_of_nonneg]
theorem shr12 {P : Program} {t : TypeId} {x : Int} (h : 0 ≤ x) : abin P .shr t (.int .i32 x) (.int .i64 12) = some (.int .i32 (x / 4096)) := by
  simp [abin, ashift, IntKind.bits, Int.fdiv_eq_ediv_of_nonneg]
theorem shr18 {P : Program} {t : TypeId} {x : Int} (h : 0 ≤ x) : abin P .shr t (.int .i32 x) (.int .i64 18) = some (.int .i32 (x / 262144)) := by
  simp [abin, ashift, IntKind.bits, Int.fdiv_eq_ediv_of_nonneg]
theorem shl_lead {P : Program} {t : TypeId} : abin P .shl t (.int .u8 240) (.int .i64 0) = some (.int .u8 240) ∧ abin P .shl t (.int .u8 240) (.int .i64 1) = some (.int .u8 224) ∧ abin P .shl t (.int .u8 240) (.int .i64 2) = some (.int .u8 192) := by
  refine ⟨?_, ?_, ?_⟩ <;> simp [abin, ashift, IntKind.bits] <;> decide
theorem one_ok {r : Int} {h : Heap} (h0 : isR r) : ACalls prog 17 #[.int .i32 r] h (fun v h' => v = .slice (some ⟨h.size, 0, none⟩) (encR r).length ((encR r).length + 1) ∧ h' = h.new 5 (bI (encR r))) := by
  have hf := fixR_range (r := r)
  have key : ∀ x : Int, 0 ≤ x → x ≤ 1114111 → fixR r = x → (encR r = encV x) := fun x _ _ e => by rw [encR, e]
  refine acalls_of_W func17 rfl (by kernel_rfl) (by kernel_rfl) (by simp [ntmps17]) ?_
  simp only [wk, wt, wl, ↓reduceIte, Nat.reduceEqDiff, Nat.reduceAdd, Nat.zero_add, not_false_eq_true, not_true_eq_false]
  refine (refValid_ok h0).use_pure ?_
  have fin : ∀ {ys : List Int}, encV (fixR r) = ys → ∀ {n : Nat}, ys.length = n → (Value.slice (some ⟨h.size, 0, none⟩) n (n + 1) = .slice (some ⟨h.size, 0, none⟩) (encR r).length ((encR r).length + 1) ∧ h.new 5 (bI ys) = h.new 5 (bI (encR r))) := by
    intro ys e n hn
    have : encR r = ys := e
    rw [this, hn]; exact ⟨rfl, rfl⟩
  cases hv : validB r with
  | false =>
    have hx : fixR r = 65533 := by simp [fixR, hv]
    simp (disch := omega) only [wk, wt, wl, ↓reduceIte, Nat.reduceEqDiff, Nat.reduceAdd, Nat.zero_add, not_false_eq_true, not_true_eq_false, Bool.not_false, aconv, IntWalk.i64_in, decide_eq_true, decide_eq_false, abin_quo (P := prog), abin_rem (P := prog), IntWalk.i64_quo, IntWalk.rem_in, IntWalk.u8_in]
    exact fin (ys := [239, 191, 189]) (by rw [hx]; decide) rfl
  | true =>
    have hx : fixR r = r := by simp [fixR, hv]
    rw [hx] at hf fin
    obtain ⟨hf0, hf1⟩ := hf
    rcases (show r < 128 ∨ (128 ≤ r ∧ r < 2048) ∨ (2048 ≤ r ∧ r < 65536) ∨ 65536 ≤ r by omega) with hc | hc | hc | hc
    · simp (disch := omega) only [wk, wt, wl, ↓reduceIte, Nat.reduceEqDiff, Nat.reduceAdd, Nat.zero_add, not_false_eq_true, not_true_eq_false, Bool.not_true, aconv, IntWalk.i64_in, decide_eq_true, decide_eq_false, abin_quo (P := prog), abin_rem (P := prog), IntWalk.i64_quo, IntWalk.rem_in, IntWalk.u8_in]
      exact fin (ys := [r]) (by unfold encV; rw [if_pos hc]) rfl
    · simp (disch := omega) only [wk, wt, wl, ↓reduceIte, Nat.reduceEqDiff, Nat.reduceAdd, Nat.zero_add, not_false_eq_true, not_true_eq_false, Bool.not_true, aconv, IntWalk.i64_in, decide_eq_true, decide_eq_false, abin_quo (P := prog), abin_rem (P := prog), IntWalk.i64_quo, IntWalk.rem_in, IntWalk.u8_in]
      exact fin (ys := [192 + r / 64, 128 + r % 64]) (by unfold encV; rw [if_neg (by omega), if_pos hc.2]) rfl
    · simp (disch := omega) only [wk, wt, wl, ↓reduceIte, Nat.reduceEqDiff, Nat.reduceAdd, Nat.zero_add, not_false_eq_true, not_true_eq_false, Bool.not_true, aconv, IntWalk.i64_in, decide_eq_true, decide_eq_false, abin_quo (P := prog), abin_rem (P := prog), IntWalk.i64_quo, IntWalk.rem_in, IntWalk.u8_in]
      exact fin (ys := [224 + r / 4096, 128 + r / 64 % 64, 128 + r % 64]) (by unfold encV; rw [if_neg (by omega), if_neg (by omega), if_pos hc.2]) rfl
    · simp (disch := omega) only [wk, wt, wl, ↓reduceIte, Nat.reduceEqDiff, Nat.reduceAdd, Nat.zero_add, not_false_eq_true, not_true_eq_false, Bool.not_true, aconv, IntWalk.i64_in, decide_eq_true, decide_eq_false, abin_quo (P := prog), abin_rem (P := prog), IntWalk.i64_quo, IntWalk.rem_in, IntWalk.u8_in]
      exact fin (ys := [240 + r / 262144, 128 + r / 4096 % 64, 128 + r / 64 % 64, 128 + r % 64]) (by unfold encV; rw [if_neg (by omega), if_neg (by omega), if_neg (by omega)]) rfl
end Go.Proofs.Ytgllmnckphbkeaa.Am
