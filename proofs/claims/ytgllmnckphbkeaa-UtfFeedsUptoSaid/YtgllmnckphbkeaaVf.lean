/- The bytes of runes, put one behind another: contracts of utf.put, utf.Encode and of the document's Encode, by walks. -/
import Derived.Test.YtgllmnckphbkeaaVe
set_option linter.unusedSimpArgs false
set_option linter.unusedVariables false
set_option maxHeartbeats 4000000
namespace Go.Proofs.Ytgllmnckphbkeaa.Am
open Go Go.RowKit Go.Proofs.Try
theorem bI_append {a b : List Int} : bI (a ++ b) = bI a ++ bI b := by simp [bI]
theorem bI_len {a : List Int} : (bI a).length = a.length := by simp [bI]
theorem put_ok {v : Value} {b : List Int} {r : Int} {h : Heap} {B : Nat} (hB : B ≤ h.size) (O : Own prog B h 1 v b.length (bI b)) (h0 : isR r) (hl : b.length ≤ 1000000000) :
    ACalls prog 27 #[v, .int .i32 r] h (fun v' h' => Own prog B h' 1 v' (b ++ encR r).length (bI (b ++ encR r)) ∧ Ch (fun y => blkOf v = some y ∧ B ≤ y) h h' ∧ Reads h h' ∧ ∀ y, blkOf v' = some y → h.size ≤ y) := by
  refine acalls_of_W' func27 rfl (by kernel_rfl) (by kernel_rfl) (by simp [ntmps27]) ?_
  intro H
  simp only [wk, wt, wl, ↓reduceIte, Nat.reduceEqDiff, Nat.reduceAdd, Nat.zero_add, not_false_eq_true, not_true_eq_false]
  refine (len_ok h0).use_pure ?_
  simp only [wk, wt, wl, ↓reduceIte, Nat.reduceEqDiff, Nat.reduceAdd, Nat.zero_add, not_false_eq_true, not_true_eq_false]
  refine (valid_ok h0).use_pure ?_
  cases hv : validB r with
  | false =>
    have hx : fixR r = 65533 := by simp [fixR, hv]
    have hf0 : (0 : Int) ≤ 65533 := by decide
    have hc2 : encV 65533 = [224 + 65533 / 4096] ++ tailB 65533 2 := by decide
    simp only [wk, wt, wl, ↓reduceIte, Nat.reduceEqDiff, Nat.reduceAdd, Nat.zero_add, not_false_eq_true, not_true_eq_false, Bool.not_false]
    have hn : (lenZ r : Int) = 3 := by
      have : lenZ r = (encV 65533).length := by rw [lenZ, encR, hx]
      rw [this, hc2]; simp [tailB]
    have d31 : decide ((3 : Int) = 1) = false := by decide
    obtain ⟨v1, h1, e1, O1, C1, R1, ev1, _⟩ := O.append1 (P := prog) H hB underlying22 elem5 fits5 (by decide) (by decide) (xs := [.int .u8 (239)]) rfl (by omega)
    simp (disch := omega) only [wk, wt, wl, ↓reduceIte, Nat.reduceEqDiff, Nat.reduceAdd, Nat.zero_add, not_false_eq_true, not_true_eq_false, hn, d31, Int.reduceSub, Int.reduceMul, Int.reduceAdd, Int.reduceDiv, shl_lead, shr12 (P := prog) (x := 65533) (by decide), aconv, IntWalk.u8_in, u8_or224, IntWalk.i64_in]
    rw [e1]; clear e1
    simp (disch := omega) only [wk, wt, wl, ↓reduceIte, Nat.reduceEqDiff, Nat.reduceAdd, Nat.zero_add, not_false_eq_true, not_true_eq_false, hn, Int.reduceSub, IntWalk.i64_in]
    refine W_loop (fun tm h' => ∃ (j : Nat) (v1 : Value) (cur : List Int), tm 0 = v1 ∧ tm 1 = .int .i32 (65533) ∧ tm 7 = .int .i64 ((j : Int) - 1) ∧ j ≤ 3 ∧ cur.length + j ≤ b.length + 4 ∧ Own prog B h' 1 v1 cur.length (bI cur) ∧ Ch (fun y => blkOf v = some y ∧ B ≤ y) h h' ∧ Reads h h' ∧ (∀ y, blkOf v1 = some y → h.size ≤ y) ∧ cur ++ tailB (65533) j = b ++ encV (65533))
      (fun tm _ => (intOf (tm 7) + 1).toNat) ⟨2, v1, b ++ [239], (by first | rfl | (simp only [wk, wt, wl, ↓reduceIte, Nat.reduceEqDiff, Nat.reduceAdd, Nat.zero_add, not_false_eq_true, not_true_eq_false]; done) | (simp only [wk, wt, wl, ↓reduceIte, Nat.reduceEqDiff, Nat.reduceAdd, Nat.zero_add, not_false_eq_true, not_true_eq_false]; rfl)), (by first | rfl | (simp only [wk, wt, wl, ↓reduceIte, Nat.reduceEqDiff, Nat.reduceAdd, Nat.zero_add, not_false_eq_true, not_true_eq_false]; done) | (simp only [wk, wt, wl, ↓reduceIte, Nat.reduceEqDiff, Nat.reduceAdd, Nat.zero_add, not_false_eq_true, not_true_eq_false]; rfl)), (by first | rfl | (simp only [wk, wt, wl, ↓reduceIte, Nat.reduceEqDiff, Nat.reduceAdd, Nat.zero_add, not_false_eq_true, not_true_eq_false]; done) | (simp only [wk, wt, wl, ↓reduceIte, Nat.reduceEqDiff, Nat.reduceAdd, Nat.zero_add, not_false_eq_true, not_true_eq_false]; rfl)), by omega, by simp only [List.length_append, List.length_singleton]; omega, by simpa [bI] using O1, C1, R1, fun y hy => by rw [ev1] at hy; simp only [blkOf, Option.some.injEq] at hy; omega, by rw [hc2]; simp⟩ ?_
    clear O1 C1 R1 ev1
    rintro tm h' ⟨j, v1, cur, t0, t1, t7, hj, hcl, O1, C, R1, hb1, hcur⟩
    simp only [wk, wt, wl, ↓reduceIte, Nat.reduceEqDiff, Nat.reduceAdd, Nat.zero_add, not_false_eq_true, not_true_eq_false, t0, t1, t7]
    refine condK_dec (fun hd => ?_) (fun hd => ?_)
    · rcases (show j = 1 ∨ j = 2 ∨ j = 3 by omega) with rfl | rfl | rfl
      · replace t7 : tm 7 = .int .i64 0 := by rw [t7]; rfl
        have K0 := Ch.wf C
        obtain ⟨v2, h2, e2, O2, C2, R2, ev2, _⟩ := O1.append1 (P := prog) K0 (by have := Ch.le C; omega) underlying22 elem5 fits5 (by decide) (by decide) (xs := [.int .u8 (128 + (65533) % 256 % 64)]) rfl (by omega)
        simp (disch := omega) only [wk, wt, wl, ↓reduceIte, Nat.reduceEqDiff, Nat.reduceAdd, Nat.zero_add, not_false_eq_true, not_true_eq_false, t0, t1, t7, Int.reduceMul, shr0 (P := prog) (x := 65533) hf0, aconv, IntKind.wrap_u8, u8_and63, u8_or128, IntWalk.i64_in, decide_true]
        rw [e2]; clear e2
        simp (disch := omega) only [wk, wt, wl, ↓reduceIte, Nat.reduceEqDiff, Nat.reduceAdd, Nat.zero_add, not_false_eq_true, not_true_eq_false, t0, t1, t7, IntWalk.i64_in, intOf_int]
        refine ⟨⟨0, v2, cur ++ [128 + (65533) % 256 % 64], rfl, rfl, by omega, by simp only [List.length_append, List.length_singleton]; omega, ?_, C.then C2 (fun y hy => .inl (hb1 y hy.1)), R1.trans R2, fun y hy => ?_, ?_⟩, by omega⟩
        · simpa [bI] using O2
        · rw [ev2] at hy; simp only [blkOf, Option.some.injEq] at hy; have := Ch.le C; omega
        · rw [← hcur]; simp only [tailB, List.append_assoc, List.cons_append, List.nil_append]; first | (congr 2; done) | (congr 2; simp only [Int.reducePow] <;> omega)
      · replace t7 : tm 7 = .int .i64 1 := by rw [t7]; rfl
        have K0 := Ch.wf C
        obtain ⟨v2, h2, e2, O2, C2, R2, ev2, _⟩ := O1.append1 (P := prog) K0 (by have := Ch.le C; omega) underlying22 elem5 fits5 (by decide) (by decide) (xs := [.int .u8 (128 + (((65533) / 64)) % 256 % 64)]) rfl (by omega)
        simp (disch := omega) only [wk, wt, wl, ↓reduceIte, Nat.reduceEqDiff, Nat.reduceAdd, Nat.zero_add, not_false_eq_true, not_true_eq_false, t0, t1, t7, Int.reduceMul, shr6 (P := prog) (x := 65533) hf0, aconv, IntKind.wrap_u8, u8_and63, u8_or128, IntWalk.i64_in, decide_true]
        rw [e2]; clear e2
        simp (disch := omega) only [wk, wt, wl, ↓reduceIte, Nat.reduceEqDiff, Nat.reduceAdd, Nat.zero_add, not_false_eq_true, not_true_eq_false, t0, t1, t7, IntWalk.i64_in, intOf_int]
        refine ⟨⟨1, v2, cur ++ [128 + (((65533) / 64)) % 256 % 64], rfl, rfl, by omega, by simp only [List.length_append, List.length_singleton]; omega, ?_, C.then C2 (fun y hy => .inl (hb1 y hy.1)), R1.trans R2, fun y hy => ?_, ?_⟩, by omega⟩
        · simpa [bI] using O2
        · rw [ev2] at hy; simp only [blkOf, Option.some.injEq] at hy; have := Ch.le C; omega
        · rw [← hcur]; simp only [tailB, List.append_assoc, List.cons_append, List.nil_append]; first | (congr 2; done) | (congr 2; simp only [Int.reducePow] <;> omega)
      · replace t7 : tm 7 = .int .i64 2 := by rw [t7]; rfl
        have K0 := Ch.wf C
        obtain ⟨v2, h2, e2, O2, C2, R2, ev2, _⟩ := O1.append1 (P := prog) K0 (by have := Ch.le C; omega) underlying22 elem5 fits5 (by decide) (by decide) (xs := [.int .u8 (128 + (((65533) / 4096)) % 256 % 64)]) rfl (by omega)
        simp (disch := omega) only [wk, wt, wl, ↓reduceIte, Nat.reduceEqDiff, Nat.reduceAdd, Nat.zero_add, not_false_eq_true, not_true_eq_false, t0, t1, t7, Int.reduceMul, shr12 (P := prog) (x := 65533) hf0, aconv, IntKind.wrap_u8, u8_and63, u8_or128, IntWalk.i64_in, decide_true]
        rw [e2]; clear e2
        simp (disch := omega) only [wk, wt, wl, ↓reduceIte, Nat.reduceEqDiff, Nat.reduceAdd, Nat.zero_add, not_false_eq_true, not_true_eq_false, t0, t1, t7, IntWalk.i64_in, intOf_int]
        refine ⟨⟨2, v2, cur ++ [128 + (((65533) / 4096)) % 256 % 64], rfl, rfl, by omega, by simp only [List.length_append, List.length_singleton]; omega, ?_, C.then C2 (fun y hy => .inl (hb1 y hy.1)), R1.trans R2, fun y hy => ?_, ?_⟩, by omega⟩
        · simpa [bI] using O2
        · rw [ev2] at hy; simp only [blkOf, Option.some.injEq] at hy; have := Ch.le C; omega
        · rw [← hcur]; simp only [tailB, List.append_assoc, List.cons_append, List.nil_append]; first | (congr 2; done) | (congr 2; simp only [Int.reducePow] <;> omega)
    · have hj0 : j = 0 := by omega
      subst hj0
      simp only [tailB, List.append_nil] at hcur
      simp only [wk, wt, wl, ↓reduceIte, Nat.reduceEqDiff, Nat.reduceAdd, Nat.zero_add, not_false_eq_true, not_true_eq_false, t0]
      rw [encR, hx, ← hcur]
      exact ⟨O1, C, R1, hb1⟩
  | true =>
    have hx : fixR r = r := by simp [fixR, hv]
    have hf := fixR_range (r := r)
    rw [hx] at hf
    obtain ⟨hf0, hf1⟩ := hf
    simp only [wk, wt, wl, ↓reduceIte, Nat.reduceEqDiff, Nat.reduceAdd, Nat.zero_add, not_false_eq_true, not_true_eq_false, Bool.not_true]
    rcases encV_tail hf0 hf1 with ⟨hc1, hc2⟩ | ⟨hc0, hc1, hc2⟩ | ⟨hc0, hc1, hc2⟩ | ⟨hc0, hc2⟩
    · have hn : (lenZ r : Int) = 1 := by
        have : lenZ r = (encV r).length := by rw [lenZ, encR, hx]
        rw [this, hc2]; rfl
      obtain ⟨v1, h1, e1, O1, C1, R1, ev1, _⟩ := O.append1 (P := prog) H hB underlying22 elem5 fits5 (by decide) (by decide) (xs := [.int .u8 r]) rfl (by omega)
      have d11 : decide ((1 : Int) = 1) = true := by decide
      simp (disch := omega) only [wk, wt, wl, ↓reduceIte, Nat.reduceEqDiff, Nat.reduceAdd, Nat.zero_add, not_false_eq_true, not_true_eq_false, hn, d11, aconv, IntWalk.u8_in]
      rw [e1]; clear e1
      simp only [wk, wt, wl, ↓reduceIte, Nat.reduceEqDiff, Nat.reduceAdd, Nat.zero_add, not_false_eq_true, not_true_eq_false]
      rw [encR, hx, hc2]
      exact ⟨by simpa [bI] using O1, C1, R1, fun y hy => by rw [ev1] at hy; simp only [blkOf, Option.some.injEq] at hy; omega⟩
    · skip
      have hn : (lenZ r : Int) = 2 := by
        have : lenZ r = (encV r).length := by rw [lenZ, encR, hx]
        rw [this, hc2]; simp [tailB]
      have d31 : decide ((2 : Int) = 1) = false := by decide
      obtain ⟨v1, h1, e1, O1, C1, R1, ev1, _⟩ := O.append1 (P := prog) H hB underlying22 elem5 fits5 (by decide) (by decide) (xs := [.int .u8 (192 + r / 64)]) rfl (by omega)
      simp (disch := omega) only [wk, wt, wl, ↓reduceIte, Nat.reduceEqDiff, Nat.reduceAdd, Nat.zero_add, not_false_eq_true, not_true_eq_false, hn, d31, Int.reduceSub, Int.reduceMul, Int.reduceAdd, Int.reduceDiv, shl_lead, shr6 (P := prog) (x := r) hf0, aconv, IntWalk.u8_in, u8_or192, IntWalk.i64_in]
      rw [e1]; clear e1
      simp (disch := omega) only [wk, wt, wl, ↓reduceIte, Nat.reduceEqDiff, Nat.reduceAdd, Nat.zero_add, not_false_eq_true, not_true_eq_false, hn, Int.reduceSub, IntWalk.i64_in]
      refine W_loop (fun tm h' => ∃ (j : Nat) (v1 : Value) (cur : List Int), tm 0 = v1 ∧ tm 1 = .int .i32 (r) ∧ tm 7 = .int .i64 ((j : Int) - 1) ∧ j ≤ 3 ∧ cur.length + j ≤ b.length + 4 ∧ Own prog B h' 1 v1 cur.length (bI cur) ∧ Ch (fun y => blkOf v = some y ∧ B ≤ y) h h' ∧ Reads h h' ∧ (∀ y, blkOf v1 = some y → h.size ≤ y) ∧ cur ++ tailB (r) j = b ++ encV (r))
        (fun tm _ => (intOf (tm 7) + 1).toNat) ⟨1, v1, b ++ [192 + r / 64], (by first | rfl | (simp only [wk, wt, wl, ↓reduceIte, Nat.reduceEqDiff, Nat.reduceAdd, Nat.zero_add, not_false_eq_true, not_true_eq_false]; done) | (simp only [wk, wt, wl, ↓reduceIte, Nat.reduceEqDiff, Nat.reduceAdd, Nat.zero_add, not_false_eq_true, not_true_eq_false]; rfl)), (by first | rfl | (simp only [wk, wt, wl, ↓reduceIte, Nat.reduceEqDiff, Nat.reduceAdd, Nat.zero_add, not_false_eq_true, not_true_eq_false]; done) | (simp only [wk, wt, wl, ↓reduceIte, Nat.reduceEqDiff, Nat.reduceAdd, Nat.zero_add, not_false_eq_true, not_true_eq_false]; rfl)), (by first | rfl | (simp only [wk, wt, wl, ↓reduceIte, Nat.reduceEqDiff, Nat.reduceAdd, Nat.zero_add, not_false_eq_true, not_true_eq_false]; done) | (simp only [wk, wt, wl, ↓reduceIte, Nat.reduceEqDiff, Nat.reduceAdd, Nat.zero_add, not_false_eq_true, not_true_eq_false]; rfl)), by omega, by simp only [List.length_append, List.length_singleton]; omega, by simpa [bI] using O1, C1, R1, fun y hy => by rw [ev1] at hy; simp only [blkOf, Option.some.injEq] at hy; omega, by rw [hc2]; simp⟩ ?_
      clear O1 C1 R1 ev1
      rintro tm h' ⟨j, v1, cur, t0, t1, t7, hj, hcl, O1, C, R1, hb1, hcur⟩
      simp only [wk, wt, wl, ↓reduceIte, Nat.reduceEqDiff, Nat.reduceAdd, Nat.zero_add, not_false_eq_true, not_true_eq_false, t0, t1, t7]
      refine condK_dec (fun hd => ?_) (fun hd => ?_)
      · rcases (show j = 1 ∨ j = 2 ∨ j = 3 by omega) with rfl | rfl | rfl
        · replace t7 : tm 7 = .int .i64 0 := by rw [t7]; rfl
          have K0 := Ch.wf C
          obtain ⟨v2, h2, e2, O2, C2, R2, ev2, _⟩ := O1.append1 (P := prog) K0 (by have := Ch.le C; omega) underlying22 elem5 fits5 (by decide) (by decide) (xs := [.int .u8 (128 + (r) % 256 % 64)]) rfl (by omega)
          simp (disch := omega) only [wk, wt, wl, ↓reduceIte, Nat.reduceEqDiff, Nat.reduceAdd, Nat.zero_add, not_false_eq_true, not_true_eq_false, t0, t1, t7, Int.reduceMul, shr0 (P := prog) (x := r) hf0, aconv, IntKind.wrap_u8, u8_and63, u8_or128, IntWalk.i64_in, decide_true]
          rw [e2]; clear e2
          simp (disch := omega) only [wk, wt, wl, ↓reduceIte, Nat.reduceEqDiff, Nat.reduceAdd, Nat.zero_add, not_false_eq_true, not_true_eq_false, t0, t1, t7, IntWalk.i64_in, intOf_int]
          refine ⟨⟨0, v2, cur ++ [128 + (r) % 256 % 64], rfl, rfl, by omega, by simp only [List.length_append, List.length_singleton]; omega, ?_, C.then C2 (fun y hy => .inl (hb1 y hy.1)), R1.trans R2, fun y hy => ?_, ?_⟩, by omega⟩
          · simpa [bI] using O2
          · rw [ev2] at hy; simp only [blkOf, Option.some.injEq] at hy; have := Ch.le C; omega
          · rw [← hcur]; simp only [tailB, List.append_assoc, List.cons_append, List.nil_append]; first | (congr 2; done) | (congr 2; simp only [Int.reducePow] <;> omega)
        · replace t7 : tm 7 = .int .i64 1 := by rw [t7]; rfl
          have K0 := Ch.wf C
          obtain ⟨v2, h2, e2, O2, C2, R2, ev2, _⟩ := O1.append1 (P := prog) K0 (by have := Ch.le C; omega) underlying22 elem5 fits5 (by decide) (by decide) (xs := [.int .u8 (128 + (((r) / 64)) % 256 % 64)]) rfl (by omega)
          simp (disch := omega) only [wk, wt, wl, ↓reduceIte, Nat.reduceEqDiff, Nat.reduceAdd, Nat.zero_add, not_false_eq_true, not_true_eq_false, t0, t1, t7, Int.reduceMul, shr6 (P := prog) (x := r) hf0, aconv, IntKind.wrap_u8, u8_and63, u8_or128, IntWalk.i64_in, decide_true]
          rw [e2]; clear e2
          simp (disch := omega) only [wk, wt, wl, ↓reduceIte, Nat.reduceEqDiff, Nat.reduceAdd, Nat.zero_add, not_false_eq_true, not_true_eq_false, t0, t1, t7, IntWalk.i64_in, intOf_int]
          refine ⟨⟨1, v2, cur ++ [128 + (((r) / 64)) % 256 % 64], rfl, rfl, by omega, by simp only [List.length_append, List.length_singleton]; omega, ?_, C.then C2 (fun y hy => .inl (hb1 y hy.1)), R1.trans R2, fun y hy => ?_, ?_⟩, by omega⟩
          · simpa [bI] using O2
          · rw [ev2] at hy; simp only [blkOf, Option.some.injEq] at hy; have := Ch.le C; omega
          · rw [← hcur]; simp only [tailB, List.append_assoc, List.cons_append, List.nil_append]; first | (congr 2; done) | (congr 2; simp only [Int.reducePow] <;> omega)
        · replace t7 : tm 7 = .int .i64 2 := by rw [t7]; rfl
          have K0 := Ch.wf C
          obtain ⟨v2, h2, e2, O2, C2, R2, ev2, _⟩ := O1.append1 (P := prog) K0 (by have := Ch.le C; omega) underlying22 elem5 fits5 (by decide) (by decide) (xs := [.int .u8 (128 + (((r) / 4096)) % 256 % 64)]) rfl (by omega)
          simp (disch := omega) only [wk, wt, wl, ↓reduceIte, Nat.reduceEqDiff, Nat.reduceAdd, Nat.zero_add, not_false_eq_true, not_true_eq_false, t0, t1, t7, Int.reduceMul, shr12 (P := prog) (x := r) hf0, aconv, IntKind.wrap_u8, u8_and63, u8_or128, IntWalk.i64_in, decide_true]
          rw [e2]; clear e2
          simp (disch := omega) only [wk, wt, wl, ↓reduceIte, Nat.reduceEqDiff, Nat.reduceAdd, Nat.zero_add, not_false_eq_true, not_true_eq_false, t0, t1, t7, IntWalk.i64_in, intOf_int]
          refine ⟨⟨2, v2, cur ++ [128 + (((r) / 4096)) % 256 % 64], rfl, rfl, by omega, by simp only [List.length_append, List.length_singleton]; omega, ?_, C.then C2 (fun y hy => .inl (hb1 y hy.1)), R1.trans R2, fun y hy => ?_, ?_⟩, by omega⟩
          · simpa [bI] using O2
          · rw [ev2] at hy; simp only [blkOf, Option.some.injEq] at hy; have := Ch.le C; omega
          · rw [← hcur]; simp only [tailB, List.append_assoc, List.cons_append, List.nil_append]; first | (congr 2; done) | (congr 2; simp only [Int.reducePow] <;> omega)
      · have hj0 : j = 0 := by omega
        subst hj0
        simp only [tailB, List.append_nil] at hcur
        simp only [wk, wt, wl, ↓reduceIte, Nat.reduceEqDiff, Nat.reduceAdd, Nat.zero_add, not_false_eq_true, not_true_eq_false, t0]
        rw [encR, hx, ← hcur]
        exact ⟨O1, C, R1, hb1⟩
    · skip
      have hn : (lenZ r : Int) = 3 := by
        have : lenZ r = (encV r).length := by rw [lenZ, encR, hx]
        rw [this, hc2]; simp [tailB]
      have d31 : decide ((3 : Int) = 1) = false := by decide
      obtain ⟨v1, h1, e1, O1, C1, R1, ev1, _⟩ := O.append1 (P := prog) H hB underlying22 elem5 fits5 (by decide) (by decide) (xs := [.int .u8 (224 + r / 4096)]) rfl (by omega)
      simp (disch := omega) only [wk, wt, wl, ↓reduceIte, Nat.reduceEqDiff, Nat.reduceAdd, Nat.zero_add, not_false_eq_true, not_true_eq_false, hn, d31, Int.reduceSub, Int.reduceMul, Int.reduceAdd, Int.reduceDiv, shl_lead, shr12 (P := prog) (x := r) hf0, aconv, IntWalk.u8_in, u8_or224, IntWalk.i64_in]
      rw [e1]; clear e1
      simp (disch := omega) only [wk, wt, wl, ↓reduceIte, Nat.reduceEqDiff, Nat.reduceAdd, Nat.zero_add, not_false_eq_true, not_true_eq_false, hn, Int.reduceSub, IntWalk.i64_in]
      refine W_loop (fun tm h' => ∃ (j : Nat) (v1 : Value) (cur : List Int), tm 0 = v1 ∧ tm 1 = .int .i32 (r) ∧ tm 7 = .int .i64 ((j : Int) - 1) ∧ j ≤ 3 ∧ cur.length + j ≤ b.length + 4 ∧ Own prog B h' 1 v1 cur.length (bI cur) ∧ Ch (fun y => blkOf v = some y ∧ B ≤ y) h h' ∧ Reads h h' ∧ (∀ y, blkOf v1 = some y → h.size ≤ y) ∧ cur ++ tailB (r) j = b ++ encV (r))
        (fun tm _ => (intOf (tm 7) + 1).toNat) ⟨2, v1, b ++ [224 + r / 4096], (by first | rfl | (simp only [wk, wt, wl, ↓reduceIte, Nat.reduceEqDiff, Nat.reduceAdd, Nat.zero_add, not_false_eq_true, not_true_eq_false]; done) | (simp only [wk, wt, wl, ↓reduceIte, Nat.reduceEqDiff, Nat.reduceAdd, Nat.zero_add, not_false_eq_true, not_true_eq_false]; rfl)), (by first | rfl | (simp only [wk, wt, wl, ↓reduceIte, Nat.reduceEqDiff, Nat.reduceAdd, Nat.zero_add, not_false_eq_true, not_true_eq_false]; done) | (simp only [wk, wt, wl, ↓reduceIte, Nat.reduceEqDiff, Nat.reduceAdd, Nat.zero_add, not_false_eq_true, not_true_eq_false]; rfl)), (by first | rfl | (simp only [wk, wt, wl, ↓reduceIte, Nat.reduceEqDiff, Nat.reduceAdd, Nat.zero_add, not_false_eq_true, not_true_eq_false]; done) | (simp only [wk, wt, wl, ↓reduceIte, Nat.reduceEqDiff, Nat.reduceAdd, Nat.zero_add, not_false_eq_true, not_true_eq_false]; rfl)), by omega, by simp only [List.length_append, List.length_singleton]; omega, by simpa [bI] using O1, C1, R1, fun y hy => by rw [ev1] at hy; simp only [blkOf, Option.some.injEq] at hy; omega, by rw [hc2]; simp⟩ ?_
      clear O1 C1 R1 ev1
      rintro tm h' ⟨j, v1, cur, t0, t1, t7, hj, hcl, O1, C, R1, hb1, hcur⟩
      simp only [wk, wt, wl, ↓reduceIte, Nat.reduceEqDiff, Nat.reduceAdd, Nat.zero_add, not_false_eq_true, not_true_eq_false, t0, t1, t7]
      refine condK_dec (fun hd => ?_) (fun hd => ?_)
      · rcases (show j = 1 ∨ j = 2 ∨ j = 3 by omega) with rfl | rfl | rfl
        · replace t7 : tm 7 = .int .i64 0 := by rw [t7]; rfl
          have K0 := Ch.wf C
          obtain ⟨v2, h2, e2, O2, C2, R2, ev2, _⟩ := O1.append1 (P := prog) K0 (by have := Ch.le C; omega) underlying22 elem5 fits5 (by decide) (by decide) (xs := [.int .u8 (128 + (r) % 256 % 64)]) rfl (by omega)
          simp (disch := omega) only [wk, wt, wl, ↓reduceIte, Nat.reduceEqDiff, Nat.reduceAdd, Nat.zero_add, not_false_eq_true, not_true_eq_false, t0, t1, t7, Int.reduceMul, shr0 (P := prog) (x := r) hf0, aconv, IntKind.wrap_u8, u8_and63, u8_or128, IntWalk.i64_in, decide_true]
          rw [e2]; clear e2
          simp (disch := omega) only [wk, wt, wl, ↓reduceIte, Nat.reduceEqDiff, Nat.reduceAdd, Nat.zero_add, not_false_eq_true, not_true_eq_false, t0, t1, t7, IntWalk.i64_in, intOf_int]
          refine ⟨⟨0, v2, cur ++ [128 + (r) % 256 % 64], rfl, rfl, by omega, by simp only [List.length_append, List.length_singleton]; omega, ?_, C.then C2 (fun y hy => .inl (hb1 y hy.1)), R1.trans R2, fun y hy => ?_, ?_⟩, by omega⟩
          · simpa [bI] using O2
          · rw [ev2] at hy; simp only [blkOf, Option.some.injEq] at hy; have := Ch.le C; omega
          · rw [← hcur]; simp only [tailB, List.append_assoc, List.cons_append, List.nil_append]; first | (congr 2; done) | (congr 2; simp only [Int.reducePow] <;> omega)
        · replace t7 : tm 7 = .int .i64 1 := by rw [t7]; rfl
          have K0 := Ch.wf C
          obtain ⟨v2, h2, e2, O2, C2, R2, ev2, _⟩ := O1.append1 (P := prog) K0 (by have := Ch.le C; omega) underlying22 elem5 fits5 (by decide) (by decide) (xs := [.int .u8 (128 + (((r) / 64)) % 256 % 64)]) rfl (by omega)
          simp (disch := omega) only [wk, wt, wl, ↓reduceIte, Nat.reduceEqDiff, Nat.reduceAdd, Nat.zero_add, not_false_eq_true, not_true_eq_false, t0, t1, t7, Int.reduceMul, shr6 (P := prog) (x := r) hf0, aconv, IntKind.wrap_u8, u8_and63, u8_or128, IntWalk.i64_in, decide_true]
          rw [e2]; clear e2
          simp (disch := omega) only [wk, wt, wl, ↓reduceIte, Nat.reduceEqDiff, Nat.reduceAdd, Nat.zero_add, not_false_eq_true, not_true_eq_false, t0, t1, t7, IntWalk.i64_in, intOf_int]
          refine ⟨⟨1, v2, cur ++ [128 + (((r) / 64)) % 256 % 64], rfl, rfl, by omega, by simp only [List.length_append, List.length_singleton]; omega, ?_, C.then C2 (fun y hy => .inl (hb1 y hy.1)), R1.trans R2, fun y hy => ?_, ?_⟩, by omega⟩
          · simpa [bI] using O2
          · rw [ev2] at hy; simp only [blkOf, Option.some.injEq] at hy; have := Ch.le C; omega
          · rw [← hcur]; simp only [tailB, List.append_assoc, List.cons_append, List.nil_append]; first | (congr 2; done) | (congr 2; simp only [Int.reducePow] <;> omega)
        · replace t7 : tm 7 = .int .i64 2 := by rw [t7]; rfl
          have K0 := Ch.wf C
          obtain ⟨v2, h2, e2, O2, C2, R2, ev2, _⟩ := O1.append1 (P := prog) K0 (by have := Ch.le C; omega) underlying22 elem5 fits5 (by decide) (by decide) (xs := [.int .u8 (128 + (((r) / 4096)) % 256 % 64)]) rfl (by omega)
          simp (disch := omega) only [wk, wt, wl, ↓reduceIte, Nat.reduceEqDiff, Nat.reduceAdd, Nat.zero_add, not_false_eq_true, not_true_eq_false, t0, t1, t7, Int.reduceMul, shr12 (P := prog) (x := r) hf0, aconv, IntKind.wrap_u8, u8_and63, u8_or128, IntWalk.i64_in, decide_true]
          rw [e2]; clear e2
          simp (disch := omega) only [wk, wt, wl, ↓reduceIte, Nat.reduceEqDiff, Nat.reduceAdd, Nat.zero_add, not_false_eq_true, not_true_eq_false, t0, t1, t7, IntWalk.i64_in, intOf_int]
          refine ⟨⟨2, v2, cur ++ [128 + (((r) / 4096)) % 256 % 64], rfl, rfl, by omega, by simp only [List.length_append, List.length_singleton]; omega, ?_, C.then C2 (fun y hy => .inl (hb1 y hy.1)), R1.trans R2, fun y hy => ?_, ?_⟩, by omega⟩
          · simpa [bI] using O2
          · rw [ev2] at hy; simp only [blkOf, Option.some.injEq] at hy; have := Ch.le C; omega
          · rw [← hcur]; simp only [tailB, List.append_assoc, List.cons_append, List.nil_append]; first | (congr 2; done) | (congr 2; simp only [Int.reducePow] <;> omega)
      · have hj0 : j = 0 := by omega
        subst hj0
        simp only [tailB, List.append_nil] at hcur
        simp only [wk, wt, wl, ↓reduceIte, Nat.reduceEqDiff, Nat.reduceAdd, Nat.zero_add, not_false_eq_true, not_true_eq_false, t0]
        rw [encR, hx, ← hcur]
        exact ⟨O1, C, R1, hb1⟩
    · skip
      have hn : (lenZ r : Int) = 4 := by
        have : lenZ r = (encV r).length := by rw [lenZ, encR, hx]
        rw [this, hc2]; simp [tailB]
      have d31 : decide ((4 : Int) = 1) = false := by decide
      obtain ⟨v1, h1, e1, O1, C1, R1, ev1, _⟩ := O.append1 (P := prog) H hB underlying22 elem5 fits5 (by decide) (by decide) (xs := [.int .u8 (240 + r / 262144)]) rfl (by omega)
      simp (disch := omega) only [wk, wt, wl, ↓reduceIte, Nat.reduceEqDiff, Nat.reduceAdd, Nat.zero_add, not_false_eq_true, not_true_eq_false, hn, d31, Int.reduceSub, Int.reduceMul, Int.reduceAdd, Int.reduceDiv, shl_lead, shr18 (P := prog) (x := r) hf0, aconv, IntWalk.u8_in, u8_or240, IntWalk.i64_in]
      rw [e1]; clear e1
      simp (disch := omega) only [wk, wt, wl, ↓reduceIte, Nat.reduceEqDiff, Nat.reduceAdd, Nat.zero_add, not_false_eq_true, not_true_eq_false, hn, Int.reduceSub, IntWalk.i64_in]
      refine W_loop (fun tm h' => ∃ (j : Nat) (v1 : Value) (cur : List Int), tm 0 = v1 ∧ tm 1 = .int .i32 (r) ∧ tm 7 = .int .i64 ((j : Int) - 1) ∧ j ≤ 3 ∧ cur.length + j ≤ b.length + 4 ∧ Own prog B h' 1 v1 cur.length (bI cur) ∧ Ch (fun y => blkOf v = some y ∧ B ≤ y) h h' ∧ Reads h h' ∧ (∀ y, blkOf v1 = some y → h.size ≤ y) ∧ cur ++ tailB (r) j = b ++ encV (r))
        (fun tm _ => (intOf (tm 7) + 1).toNat) ⟨3, v1, b ++ [240 + r / 262144], (by first | rfl | (simp only [wk, wt, wl, ↓reduceIte, Nat.reduceEqDiff, Nat.reduceAdd, Nat.zero_add, not_false_eq_true, not_true_eq_false]; done) | (simp only [wk, wt, wl, ↓reduceIte, Nat.reduceEqDiff, Nat.reduceAdd, Nat.zero_add, not_false_eq_true, not_true_eq_false]; rfl)), (by first | rfl | (simp only [wk, wt, wl, ↓reduceIte, Nat.reduceEqDiff, Nat.reduceAdd, Nat.zero_add, not_false_eq_true, not_true_eq_false]; done) | (simp only [wk, wt, wl, ↓reduceIte, Nat.reduceEqDiff, Nat.reduceAdd, Nat.zero_add, not_false_eq_true, not_true_eq_false]; rfl)), (by first | rfl | (simp only [wk, wt, wl, ↓reduceIte, Nat.reduceEqDiff, Nat.reduceAdd, Nat.zero_add, not_false_eq_true, not_true_eq_false]; done) | (simp only [wk, wt, wl, ↓reduceIte, Nat.reduceEqDiff, Nat.reduceAdd, Nat.zero_add, not_false_eq_true, not_true_eq_false]; rfl)), by omega, by simp only [List.length_append, List.length_singleton]; omega, by simpa [bI] using O1, C1, R1, fun y hy => by rw [ev1] at hy; simp only [blkOf, Option.some.injEq] at hy; omega, by rw [hc2]; simp⟩ ?_
      clear O1 C1 R1 ev1
      rintro tm h' ⟨j, v1, cur, t0, t1, t7, hj, hcl, O1, C, R1, hb1, hcur⟩
      simp only [wk, wt, wl, ↓reduceIte, Nat.reduceEqDiff, Nat.reduceAdd, Nat.zero_add, not_false_eq_true, not_true_eq_false, t0, t1, t7]
      refine condK_dec (fun hd => ?_) (fun hd => ?_)
      · rcases (show j = 1 ∨ j = 2 ∨ j = 3 by omega) with rfl | rfl | rfl
        · replace t7 : tm 7 = .int .i64 0 := by rw [t7]; rfl
          have K0 := Ch.wf C
          obtain ⟨v2, h2, e2, O2, C2, R2, ev2, _⟩ := O1.append1 (P := prog) K0 (by have := Ch.le C; omega) underlying22 elem5 fits5 (by decide) (by decide) (xs := [.int .u8 (128 + (r) % 256 % 64)]) rfl (by omega)
          simp (disch := omega) only [wk, wt, wl, ↓reduceIte, Nat.reduceEqDiff, Nat.reduceAdd, Nat.zero_add, not_false_eq_true, not_true_eq_false, t0, t1, t7, Int.reduceMul, shr0 (P := prog) (x := r) hf0, aconv, IntKind.wrap_u8, u8_and63, u8_or128, IntWalk.i64_in, decide_true]
          rw [e2]; clear e2
          simp (disch := omega) only [wk, wt, wl, ↓reduceIte, Nat.reduceEqDiff, Nat.reduceAdd, Nat.zero_add, not_false_eq_true, not_true_eq_false, t0, t1, t7, IntWalk.i64_in, intOf_int]
          refine ⟨⟨0, v2, cur ++ [128 + (r) % 256 % 64], rfl, rfl, by omega, by simp only [List.length_append, List.length_singleton]; omega, ?_, C.then C2 (fun y hy => .inl (hb1 y hy.1)), R1.trans R2, fun y hy => ?_, ?_⟩, by omega⟩
          · simpa [bI] using O2
          · rw [ev2] at hy; simp only [blkOf, Option.some.injEq] at hy; have := Ch.le C; omega
          · rw [← hcur]; simp only [tailB, List.append_assoc, List.cons_append, List.nil_append]; first | (congr 2; done) | (congr 2; simp only [Int.reducePow] <;> omega)
        · replace t7 : tm 7 = .int .i64 1 := by rw [t7]; rfl
          have K0 := Ch.wf C
          obtain ⟨v2, h2, e2, O2, C2, R2, ev2, _⟩ := O1.append1 (P := prog) K0 (by have := Ch.le C; omega) underlying22 elem5 fits5 (by decide) (by decide) (xs := [.int .u8 (128 + (((r) / 64)) % 256 % 64)]) rfl (by omega)
          simp (disch := omega) only [wk, wt, wl, ↓reduceIte, Nat.reduceEqDiff, Nat.reduceAdd, Nat.zero_add, not_false_eq_true, not_true_eq_false, t0, t1, t7, Int.reduceMul, shr6 (P := prog) (x := r) hf0, aconv, IntKind.wrap_u8, u8_and63, u8_or128, IntWalk.i64_in, decide_true]
          rw [e2]; clear e2
          simp (disch := omega) only [wk, wt, wl, ↓reduceIte, Nat.reduceEqDiff, Nat.reduceAdd, Nat.zero_add, not_false_eq_true, not_true_eq_false, t0, t1, t7, IntWalk.i64_in, intOf_int]
          refine ⟨⟨1, v2, cur ++ [128 + (((r) / 64)) % 256 % 64], rfl, rfl, by omega, by simp only [List.length_append, List.length_singleton]; omega, ?_, C.then C2 (fun y hy => .inl (hb1 y hy.1)), R1.trans R2, fun y hy => ?_, ?_⟩, by omega⟩
          · simpa [bI] using O2
          · rw [ev2] at hy; simp only [blkOf, Option.some.injEq] at hy; have := Ch.le C; omega
          · rw [← hcur]; simp only [tailB, List.append_assoc, List.cons_append, List.nil_append]; first | (congr 2; done) | (congr 2; simp only [Int.reducePow] <;> omega)
        · replace t7 : tm 7 = .int .i64 2 := by rw [t7]; rfl
          have K0 := Ch.wf C
          obtain ⟨v2, h2, e2, O2, C2, R2, ev2, _⟩ := O1.append1 (P := prog) K0 (by have := Ch.le C; omega) underlying22 elem5 fits5 (by decide) (by decide) (xs := [.int .u8 (128 + (((r) / 4096)) % 256 % 64)]) rfl (by omega)
          simp (disch := omega) only [wk, wt, wl, ↓reduceIte, Nat.reduceEqDiff, Nat.reduceAdd, Nat.zero_add, not_false_eq_true, not_true_eq_false, t0, t1, t7, Int.reduceMul, shr12 (P := prog) (x := r) hf0, aconv, IntKind.wrap_u8, u8_and63, u8_or128, IntWalk.i64_in, decide_true]
          rw [e2]; clear e2
          simp (disch := omega) only [wk, wt, wl, ↓reduceIte, Nat.reduceEqDiff, Nat.reduceAdd, Nat.zero_add, not_false_eq_true, not_true_eq_false, t0, t1, t7, IntWalk.i64_in, intOf_int]
          refine ⟨⟨2, v2, cur ++ [128 + (((r) / 4096)) % 256 % 64], rfl, rfl, by omega, by simp only [List.length_append, List.length_singleton]; omega, ?_, C.then C2 (fun y hy => .inl (hb1 y hy.1)), R1.trans R2, fun y hy => ?_, ?_⟩, by omega⟩
          · simpa [bI] using O2
          · rw [ev2] at hy; simp only [blkOf, Option.some.injEq] at hy; have := Ch.le C; omega
          · rw [← hcur]; simp only [tailB, List.append_assoc, List.cons_append, List.nil_append]; first | (congr 2; done) | (congr 2; simp only [Int.reducePow] <;> omega)
      · have hj0 : j = 0 := by omega
        subst hj0
        simp only [tailB, List.append_nil] at hcur
        simp only [wk, wt, wl, ↓reduceIte, Nat.reduceEqDiff, Nat.reduceAdd, Nat.zero_add, not_false_eq_true, not_true_eq_false, t0]
        rw [encR, hx, ← hcur]
        exact ⟨O1, C, R1, hb1⟩
def encL (l : List Int) : List Int := l.flatMap encR
theorem take_next {l : List Int} {i : Nat} (hi : i < l.length) : l.take (i + 1) = l.take i ++ [l.getD i 0] := by
  rw [List.take_succ_eq_append_getElem hi, List.getD_eq_getElem?_getD, List.getElem?_eq_getElem hi]; rfl
theorem encL_next {l : List Int} {i : Nat} (hi : i < l.length) : encL (l.take (i + 1)) = encL (l.take i) ++ encR (l.getD i 0) := by
  rw [take_next hi]; simp [encL]
theorem encL_len (l : List Int) : (encL l).length ≤ 4 * l.length := by
  induction l with
  | nil => simp [encL]
  | cons r l ih =>
    have := lenZ_range (r := r)
    unfold lenZ at this
    simp only [encL, List.flatMap_cons, List.length_append, List.length_cons] at ih ⊢; omega
theorem encL_isB {l : List Int} : ∀ y, y ∈ encL l → isB y := fun y hy => by
  obtain ⟨r, _, h⟩ := List.mem_flatMap.1 hy
  exact encR_isB y h
theorem encode_ok {a : Value} {l : List Int} {h : Heap} (ha : RdI prog h .i32 a l) (hl : l.length ≤ 100000000) (hr : ∀ j, isR (l.getD j 0)) :
    ACalls prog 18 #[a] h (fun v h' => Own prog h.size h' 1 v (encL l).length (bI (encL l)) ∧ Keeps h h' ∧ ∀ y, blkOf v = some y → h.size ≤ y) := by
  refine acalls_of_W' func18 rfl (by kernel_rfl) (by kernel_rfl) (by simp [ntmps18]) ?_
  intro H
  simp only [wk, wt, wl, ↓reduceIte, Nat.reduceEqDiff, Nat.reduceAdd, Nat.zero_add, not_false_eq_true, not_true_eq_false, RdI.len ha underlying24]
  refine W_loop (fun tm h' => Keeps h h' ∧ tm 0 = a ∧ tm 6 = .int .i64 l.length ∧ ∃ (i : Nat) (v : Value), tm 7 = .int .i64 i ∧ tm 3 = v ∧ i ≤ l.length ∧ Own prog h.size h' 1 v (encL (l.take i)).length (bI (encL (l.take i))) ∧ ∀ y, blkOf v = some y → h.size ≤ y) (fun tm _ => (l.length - intOf (tm 7)).toNat)
    ⟨Keeps.refl H, (by first | rfl | (simp only [wk, wt, wl, ↓reduceIte, Nat.reduceEqDiff, Nat.reduceAdd, Nat.zero_add, not_false_eq_true, not_true_eq_false]; done) | (simp only [wk, wt, wl, ↓reduceIte, Nat.reduceEqDiff, Nat.reduceAdd, Nat.zero_add, not_false_eq_true, not_true_eq_false]; rfl)), (by first | rfl | (simp only [wk, wt, wl, ↓reduceIte, Nat.reduceEqDiff, Nat.reduceAdd, Nat.zero_add, not_false_eq_true, not_true_eq_false]; done) | (simp only [wk, wt, wl, ↓reduceIte, Nat.reduceEqDiff, Nat.reduceAdd, Nat.zero_add, not_false_eq_true, not_true_eq_false]; rfl)), 0, .slice none 0 0, (by first | rfl | (simp only [wk, wt, wl, ↓reduceIte, Nat.reduceEqDiff, Nat.reduceAdd, Nat.zero_add, not_false_eq_true, not_true_eq_false]; done) | (simp only [wk, wt, wl, ↓reduceIte, Nat.reduceEqDiff, Nat.reduceAdd, Nat.zero_add, not_false_eq_true, not_true_eq_false]; rfl)), (by first | rfl | (simp only [wk, wt, wl, ↓reduceIte, Nat.reduceEqDiff, Nat.reduceAdd, Nat.zero_add, not_false_eq_true, not_true_eq_false]; done) | (simp only [wk, wt, wl, ↓reduceIte, Nat.reduceEqDiff, Nat.reduceAdd, Nat.zero_add, not_false_eq_true, not_true_eq_false]; rfl)), by omega, by simpa [encL, bI] using Own.nil0, fun y hy => by cases hy⟩ ?_
  rintro tm h' ⟨K, t0, t6, i, v, t7, t3, hi, O, hb⟩
  simp only [wk, wt, wl, ↓reduceIte, Nat.reduceEqDiff, Nat.reduceAdd, Nat.zero_add, not_false_eq_true, not_true_eq_false, t0, t6, t7, t3]
  refine condK_dec (fun hd => ?_) (fun hd => ?_)
  · have hi1 : i < l.length := by omega
    have hlen := encL_len (l.take i)
    simp only [List.length_take] at hlen
    simp (disch := omega) only [wk, wt, wl, ↓reduceIte, Nat.reduceEqDiff, Nat.reduceAdd, Nat.zero_add, not_false_eq_true, not_true_eq_false, t0, t6, t7, t3, RdI.index (ha.keeps K) underlying24 asz21 (q := .i64) (i := (i : Int)), Int.toNat_natCast, RdI.at (ha.keeps K) (t := 21) underlying21 rfl hi1]
    refine (put_ok (Ch.le K) O (hr i) (by omega)).use ?_
    rintro v2 h2 ⟨O2, C2, R2, hb2⟩
    have K2 := K.step C2 fun b hb => hb.2
    simp (disch := omega) only [wk, wt, wl, ↓reduceIte, Nat.reduceEqDiff, Nat.reduceAdd, Nat.zero_add, not_false_eq_true, not_true_eq_false, t0, t6, t7, IntWalk.i64_in, intOf_int]
    exact ⟨⟨K2, i + 1, v2, by simp, rfl, by omega, by rw [encL_next hi1]; exact O2, fun y hy => by have := hb2 y hy; have := Ch.le K; omega⟩, by omega⟩
  · simp only [wk, wt, wl, ↓reduceIte, Nat.reduceEqDiff, Nat.reduceAdd, Nat.zero_add, not_false_eq_true, not_true_eq_false, t3]
    rw [List.take_of_length_le (by omega)] at O
    exact ⟨O, K, hb⟩
theorem rdNewB {h : Heap} (H : Wf h) (xs : List Int) : RdI prog (h.new 5 (bI xs)) .u8 (.slice (some ⟨h.size, 0, none⟩) xs.length (xs.length + 1)) xs := Rd.new H asz5 (by simp [bI])
theorem refEncode_ok {a : Value} {l : List Int} {h : Heap} (ha : RdI prog h .i32 a l) (hl : l.length ≤ 100000000) (hr : ∀ j, isR (l.getD j 0)) :
    ACalls prog 19 #[a] h (fun v h' => RdI prog h' .u8 v (encL l) ∧ Keeps h h') := by
  refine acalls_of_W' func19 rfl (by kernel_rfl) (by kernel_rfl) (by simp [ntmps19]) ?_
  intro H
  simp only [wk, wt, wl, ↓reduceIte, Nat.reduceEqDiff, Nat.reduceAdd, Nat.zero_add, not_false_eq_true, not_true_eq_false]
  refine W_loop (fun tm h' => Keeps h h' ∧ tm 0 = a ∧ ∃ (i : Nat) (v : Value), tm 4 = .int .i64 i ∧ tm 3 = v ∧ i ≤ l.length ∧ Own prog h.size h' 1 v (encL (l.take i)).length (bI (encL (l.take i)))) (fun tm _ => (l.length - intOf (tm 4)).toNat)
    ⟨Keeps.refl H, (by first | rfl | (simp only [wk, wt, wl, ↓reduceIte, Nat.reduceEqDiff, Nat.reduceAdd, Nat.zero_add, not_false_eq_true, not_true_eq_false]; done) | (simp only [wk, wt, wl, ↓reduceIte, Nat.reduceEqDiff, Nat.reduceAdd, Nat.zero_add, not_false_eq_true, not_true_eq_false]; rfl)), 0, .slice none 0 0, (by first | rfl | (simp only [wk, wt, wl, ↓reduceIte, Nat.reduceEqDiff, Nat.reduceAdd, Nat.zero_add, not_false_eq_true, not_true_eq_false]; done) | (simp only [wk, wt, wl, ↓reduceIte, Nat.reduceEqDiff, Nat.reduceAdd, Nat.zero_add, not_false_eq_true, not_true_eq_false]; rfl)), (by first | rfl | (simp only [wk, wt, wl, ↓reduceIte, Nat.reduceEqDiff, Nat.reduceAdd, Nat.zero_add, not_false_eq_true, not_true_eq_false]; done) | (simp only [wk, wt, wl, ↓reduceIte, Nat.reduceEqDiff, Nat.reduceAdd, Nat.zero_add, not_false_eq_true, not_true_eq_false]; rfl)), by omega, by simpa [encL, bI] using Own.nil0⟩ ?_
  rintro tm h' ⟨K, t0, i, v, t7, t3, hi, O⟩
  simp only [wk, wt, wl, ↓reduceIte, Nat.reduceEqDiff, Nat.reduceAdd, Nat.zero_add, not_false_eq_true, not_true_eq_false, t0, t7, t3, RdI.len (ha.keeps K) underlying24]
  refine condK_dec (fun hd => ?_) (fun hd => ?_)
  · have hi1 : i < l.length := by omega
    have hlen := encL_len (l.take i)
    simp only [List.length_take] at hlen
    have hl4 := lenZ_range (r := l.getD i 0)
    unfold lenZ at hl4
    simp (disch := omega) only [wk, wt, wl, ↓reduceIte, Nat.reduceEqDiff, Nat.reduceAdd, Nat.zero_add, not_false_eq_true, not_true_eq_false, t0, t7, t3, RdI.index (ha.keeps K) underlying24 asz21 (q := .i64) (i := (i : Int)), Int.toNat_natCast, RdI.at (ha.keeps K) (t := 21) underlying21 rfl hi1]
    refine (one_ok (hr i)).use_pure ?_
    have N := Keeps.new (Ch.wf K) 5 (bI (encR (l.getD i 0)))
    have X := rdNewB (Ch.wf K) (encR (l.getD i 0))
    have O1 := O.keeps N
    simp only [wk, wt, wl, ↓reduceIte, Nat.reduceEqDiff, Nat.reduceAdd, Nat.zero_add, not_false_eq_true, not_true_eq_false, t0, t7, t3]
    obtain ⟨v2, h2, e2, O2, R2, C2, _⟩ := O1.appendRd (P := prog) (Ch.wf N) (by have := Ch.le K; have := Ch.le N; omega) underlying22 underlying22 rfl elem5 fits5 (by decide) X (by omega)
    rw [e2]; clear e2
    have K2 := (K.trans N).step C2 fun b hb => hb.2
    simp (disch := omega) only [wk, wt, wl, ↓reduceIte, Nat.reduceEqDiff, Nat.reduceAdd, Nat.zero_add, not_false_eq_true, not_true_eq_false, t0, t7, IntWalk.i64_in, intOf_int]
    refine ⟨⟨K2, i + 1, v2, by simp, rfl, by omega, ?_⟩, by omega⟩
    rw [encL_next hi1, List.length_append, bI_append]; exact O2
  · simp only [wk, wt, wl, ↓reduceIte, Nat.reduceEqDiff, Nat.reduceAdd, Nat.zero_add, not_false_eq_true, not_true_eq_false, t3]
    rw [List.take_of_length_le (by omega)] at O
    exact ⟨O.1, K⟩
end Go.Proofs.Ytgllmnckphbkeaa.Am
