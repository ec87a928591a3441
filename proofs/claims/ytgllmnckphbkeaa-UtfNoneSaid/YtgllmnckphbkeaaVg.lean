/- A scalar with whose bytes a row begins: contracts of the document's value, same and Whole, by walks. -/
import Derived.Test.YtgllmnckphbkeaaVf
set_option linter.unusedSimpArgs false
set_option linter.unusedVariables false
set_option maxHeartbeats 4000000
namespace Go.Proofs.Ytgllmnckphbkeaa.Am
open Go Go.RowKit Go.Proofs.Try
def valGo : Int → List Int → Option Int
  | v, [] => some v
  | v, x :: t => if x < 128 ∨ 191 < x then none else valGo (v * 64 + x - 128) t
def valOff (n : Nat) : Int := if n = 2 then 192 else if n = 3 then 224 else if n = 4 then 240 else 0
def valueZ (b : List Int) (n : Nat) : Int :=
  match valGo (b.getD 0 0 - valOff n) ((b.take n).drop 1) with
  | none => -1
  | some v => if v < 0 ∨ 1114111 < v then -1 else v
theorem valueZ_range {b : List Int} {n : Nat} : -1 ≤ valueZ b n ∧ valueZ b n ≤ 1114111 := by
  unfold valueZ
  split
  · omega
  · split <;> omega
theorem valueZ_enc {r : Int} (hr : validB r = true) (t : List Int) : valueZ (encV r ++ t) (encV r).length = r := by
  simp only [validB, decide_eq_true_eq] at hr
  unfold encV
  repeat' split
  · simp [valueZ, valOff, valGo]; omega
  · simp only [valueZ, valOff, List.cons_append, List.nil_append, List.length_cons, List.length_nil, Nat.zero_add, Nat.reduceAdd, Nat.reduceEqDiff, if_true, if_false, List.take_succ_cons, List.take_zero, List.drop_succ_cons, List.drop_zero, List.getD_cons_zero, valGo]
    rw [if_neg (by omega)]; simp only; rw [if_neg (by omega)]; omega
  · simp only [valueZ, valOff, List.cons_append, List.nil_append, List.length_cons, List.length_nil, Nat.zero_add, Nat.reduceAdd, Nat.reduceEqDiff, if_true, if_false, List.take_succ_cons, List.take_zero, List.drop_succ_cons, List.drop_zero, List.getD_cons_zero, valGo]
    rw [if_neg (by omega), if_neg (by omega)]; simp only; rw [if_neg (by omega)]; omega
  · simp only [valueZ, valOff, List.cons_append, List.nil_append, List.length_cons, List.length_nil, Nat.zero_add, Nat.reduceAdd, Nat.reduceEqDiff, if_true, if_false, List.take_succ_cons, List.take_zero, List.drop_succ_cons, List.drop_zero, List.getD_cons_zero, valGo]
    rw [if_neg (by omega), if_neg (by omega), if_neg (by omega)]; simp only; rw [if_neg (by omega)]; omega
/-- Does the document find a scalar of n bytes? -/
def testB (b : List Int) (n : Nat) : Prop := 0 ≤ valueZ b n ∧ validB (valueZ b n) = true ∧ encV (valueZ b n) = b.take n
theorem testB_iff {b : List Int} {n : Nat} (hb : ∀ x, x ∈ b → isB x) (hn : n ≤ b.length) : testB b n ↔ wholeZ b = some (valueZ b n, n) := by
  constructor
  · rintro ⟨h1, h2, h3⟩
    have hl : (encV (valueZ b n)).length = n := by rw [h3, List.length_take]; omega
    have e : b = encV (valueZ b n) ++ b.drop n := by rw [h3]; exact (List.take_append_drop n b).symm
    have := nextZ_enc h2 (b.drop n)
    rw [← e, hl] at this
    simp only [wholeZ, this]
    rw [if_neg]
    intro e2
    simp only [Prod.mk.injEq] at e2
    rw [e2.1, e2.2] at hl
    revert hl; decide
  · intro h
    simp only [wholeZ] at h
    split at h
    · rename_i p hp
      split at h
      · cases h
      · rename_i hg
        simp only [Option.some.injEq] at h
        subst h
        obtain ⟨h1, t, h2, h3⟩ := nextZ_exact hb hp hg
        refine ⟨?_, h1, ?_⟩
        · simp only [validB, decide_eq_true_eq] at h1; omega
        · have := congrArg (List.take n) h2
          rw [this]; exact (List.take_left' h3.symm).symm
    · cases h
theorem whole_cases {b : List Int} (hb : ∀ x, x ∈ b → isB x) {r : Int} {n : Nat} (h : wholeZ b = some (r, n)) : 1 ≤ n ∧ n ≤ 4 ∧ n ≤ b.length ∧ r = valueZ b n ∧ validB r = true := by
  simp only [wholeZ] at h
  split at h
  · rename_i p hp
    split at h
    · cases h
    · rename_i hg
      simp only [Option.some.injEq] at h
      subst h
      obtain ⟨h1, t, h2, h3⟩ := nextZ_exact hb hp hg
      have := nextZ_le hp
      refine ⟨by omega, by omega, by omega, ?_, h1⟩
      rw [h2, h3]; exact (valueZ_enc h1 t).symm
  · cases h
theorem whole_none {b : List Int} (hb : ∀ x, x ∈ b → isB x) (h : ∀ n, 1 ≤ n → n ≤ 4 → n ≤ b.length → ¬ testB b n) : wholeZ b = none := by
  cases hw : wholeZ b with
  | none => rfl
  | some p =>
    obtain ⟨r, n⟩ := p
    obtain ⟨h1, h2, h3, h4, _⟩ := whole_cases hb hw
    exact absurd ((testB_iff hb h3).2 (by rw [hw, h4])) (h n h1 h2 h3)
theorem value_ok {v : Value} {b : List Int} {n : Nat} {h : Heap} (hv : RdI prog h .u8 v b) (hb : ∀ x, x ∈ b → isB x) (h1 : 1 ≤ n) (h4 : n ≤ 4) (hn : n ≤ b.length) :
    ACalls prog 30 #[v, .int .i64 n] h (fun x h' => x = .int .i32 (valueZ b n) ∧ h' = h) := by
  have hB := fun i => isB_getD hb i
  have hB0 := hB 0
  unfold isB at hB0
  refine acalls_of_W func30 rfl (by kernel_rfl) (by kernel_rfl) (by simp [ntmps30]) ?_
  simp (disch := omega) only [wk, wt, wl, ↓reduceIte, Nat.reduceEqDiff, Nat.reduceAdd, Nat.zero_add, not_false_eq_true, not_true_eq_false, RdI.index hv underlying22 asz5 (q := .i64) (i := 0), Int.toNat_zero, RdI.at hv underlying5 rfl (i := 0), aconv, IntWalk.i64_in]
  have hoff : 0 ≤ valOff n ∧ valOff n ≤ 240 := by unfold valOff; repeat' split <;> omega
  rcases (show n = 1 ∨ n = 2 ∨ n = 3 ∨ n = 4 by omega) with rfl | rfl | rfl | rfl
  · have d2 : decide ((1 : Int) = 2) = false := by decide
    have d3 : decide ((1 : Int) = 3) = false := by decide
    have d4 : decide ((1 : Int) = 4) = false := by decide
    simp (disch := omega) only [wk, wt, wl, ↓reduceIte, Nat.reduceEqDiff, Nat.reduceAdd, Nat.zero_add, not_false_eq_true, not_true_eq_false, d2, d3, d4, Int.cast_ofNat_Int]
    have hvo : valOff 1 = 0 := by decide
    obtain ⟨G, hG⟩ : ∃ G, valGo (b.getD 0 0 - valOff 1) ((b.take 1).drop 1) = G := ⟨_, rfl⟩
    refine W_loop (fun tm h' => h' = h ∧ tm 0 = v ∧ tm 1 = .int .i64 1 ∧ ∃ (i : Nat) (y : Int), tm 7 = .int .i64 i ∧ tm 6 = .int .i64 y ∧ 1 ≤ i ∧ i ≤ 1 ∧ ((i = 1 ∧ -240 ≤ y ∧ y ≤ 255) ∨ (i = 2 ∧ -15360 ≤ y ∧ y ≤ 16383) ∨ (i = 3 ∧ -983040 ≤ y ∧ y ≤ 1048575) ∨ (i = 4 ∧ -62914560 ≤ y ∧ y ≤ 67108863)) ∧ G = valGo y ((b.take 1).drop i))
      (fun tm _ => (1 - intOf (tm 7)).toNat) ⟨rfl, (by first | rfl | (simp only [wk, wt, wl, ↓reduceIte, Nat.reduceEqDiff, Nat.reduceAdd, Nat.zero_add, not_false_eq_true, not_true_eq_false]; done) | (simp only [wk, wt, wl, ↓reduceIte, Nat.reduceEqDiff, Nat.reduceAdd, Nat.zero_add, not_false_eq_true, not_true_eq_false]; rfl)), (by first | rfl | (simp only [wk, wt, wl, ↓reduceIte, Nat.reduceEqDiff, Nat.reduceAdd, Nat.zero_add, not_false_eq_true, not_true_eq_false]; done) | (simp only [wk, wt, wl, ↓reduceIte, Nat.reduceEqDiff, Nat.reduceAdd, Nat.zero_add, not_false_eq_true, not_true_eq_false]; rfl)), 1, b.getD 0 0 - valOff 1, (by first | rfl | (simp only [wk, wt, wl, ↓reduceIte, Nat.reduceEqDiff, Nat.reduceAdd, Nat.zero_add, not_false_eq_true, not_true_eq_false]; done) | (simp only [wk, wt, wl, ↓reduceIte, Nat.reduceEqDiff, Nat.reduceAdd, Nat.zero_add, not_false_eq_true, not_true_eq_false]; rfl)), ?_, by omega, by omega, .inl ⟨rfl, by omega, by omega⟩, hG.symm⟩ ?_
    · simp only [wk, wt, wl, ↓reduceIte, Nat.reduceEqDiff, Nat.reduceAdd, Nat.zero_add, not_false_eq_true, not_true_eq_false, hvo, Int.sub_zero]
    rintro tm h' ⟨rfl, t0, t1, i, y, t7, t6, hi1, hi2, hy, hgo⟩
    simp only [wk, wt, wl, ↓reduceIte, Nat.reduceEqDiff, Nat.reduceAdd, Nat.zero_add, not_false_eq_true, not_true_eq_false, t0, t1, t7, t6]
    refine condK_dec (fun hd => ?_) (fun hd => ?_)
    · have hib : i < b.length := by omega
      have hit : i < (b.take 1).length := by rw [List.length_take]; omega
      rw [List.drop_eq_getElem_cons hit] at hgo
      have LX := RdI.at hv (t := 5) underlying5 rfl hib
      have ex : (b.take 1)[i] = b.getD i 0 := by rw [List.getElem_take, List.getD_eq_getElem?_getD, List.getElem?_eq_getElem hib]; rfl
      rw [ex] at hgo
      have hx := hB i
      generalize b.getD i 0 = x at LX hgo hx
      simp only [valGo] at hgo
      unfold isB at hx
      by_cases hbad : x < 128 ∨ 191 < x
      · rw [if_pos hbad] at hgo
        have fin : valueZ b 1 = -1 := by simp only [valueZ, hG, hgo]
        by_cases hl1 : x < 128
        · have e1 : decide (x < 128) = true := decide_eq_true hl1
          simp (disch := omega) only [wk, wt, wl, ↓reduceIte, Nat.reduceEqDiff, Nat.reduceAdd, Nat.zero_add, not_false_eq_true, not_true_eq_false, t0, t1, t7, t6, RdI.index hv underlying22 asz5 (q := .i64) (i := (i : Int)), Int.toNat_natCast, LX, e1]
          rw [fin]; exact ⟨rfl, trivial⟩
        · have e1 : decide (x < 128) = false := decide_eq_false hl1
          have e2 : decide (191 < x) = true := decide_eq_true (by omega)
          simp (disch := omega) only [wk, wt, wl, ↓reduceIte, Nat.reduceEqDiff, Nat.reduceAdd, Nat.zero_add, not_false_eq_true, not_true_eq_false, t0, t1, t7, t6, RdI.index hv underlying22 asz5 (q := .i64) (i := (i : Int)), Int.toNat_natCast, LX, e1, e2]
          rw [fin]; exact ⟨rfl, trivial⟩
      · rw [if_neg hbad] at hgo
        have e1 : decide (x < 128) = false := decide_eq_false (by omega)
        have e2 : decide (191 < x) = false := decide_eq_false (by omega)
        simp (disch := omega) only [wk, wt, wl, ↓reduceIte, Nat.reduceEqDiff, Nat.reduceAdd, Nat.zero_add, not_false_eq_true, not_true_eq_false, t0, t1, t7, t6, RdI.index hv underlying22 asz5 (q := .i64) (i := (i : Int)), Int.toNat_natCast, LX, e1, e2, aconv, IntWalk.i64_in, intOf_int]
        exact ⟨⟨i + 1, y * 64 + x - 128, by simp, rfl, by omega, by omega, by omega, hgo⟩, by omega⟩
    · have hie : i = 1 := by omega
      rw [List.drop_of_length_le (by rw [List.length_take]; omega)] at hgo
      simp only [valGo] at hgo
      by_cases hbad : y < 0 ∨ 1114111 < y
      · have fin : valueZ b 1 = -1 := by simp only [valueZ, hG, hgo]; rw [if_pos hbad]
        by_cases hl1 : y < 0
        · have e1 : decide (y < 0) = true := decide_eq_true hl1
          simp (disch := omega) only [wk, wt, wl, ↓reduceIte, Nat.reduceEqDiff, Nat.reduceAdd, Nat.zero_add, not_false_eq_true, not_true_eq_false, t0, t1, t7, t6, e1]
          rw [fin]; exact ⟨rfl, trivial⟩
        · have e1 : decide (y < 0) = false := decide_eq_false hl1
          have e2 : decide (1114111 < y) = true := decide_eq_true (by omega)
          simp (disch := omega) only [wk, wt, wl, ↓reduceIte, Nat.reduceEqDiff, Nat.reduceAdd, Nat.zero_add, not_false_eq_true, not_true_eq_false, t0, t1, t7, t6, e1, e2]
          rw [fin]; exact ⟨rfl, trivial⟩
      · have fin : valueZ b 1 = y := by simp only [valueZ, hG, hgo]; rw [if_neg hbad]
        have e1 : decide (y < 0) = false := decide_eq_false (by omega)
        have e2 : decide (1114111 < y) = false := decide_eq_false (by omega)
        simp (disch := omega) only [wk, wt, wl, ↓reduceIte, Nat.reduceEqDiff, Nat.reduceAdd, Nat.zero_add, not_false_eq_true, not_true_eq_false, t0, t1, t7, t6, e1, e2, aconv, IntWalk.i32_in]
        rw [fin]; exact ⟨rfl, trivial⟩
  · have d2 : decide ((2 : Int) = 2) = true := by decide
    simp (disch := omega) only [wk, wt, wl, ↓reduceIte, Nat.reduceEqDiff, Nat.reduceAdd, Nat.zero_add, not_false_eq_true, not_true_eq_false, d2, Int.cast_ofNat_Int, IntWalk.i64_in]
    have hvo : valOff 2 = 192 := by decide
    obtain ⟨G, hG⟩ : ∃ G, valGo (b.getD 0 0 - valOff 2) ((b.take 2).drop 1) = G := ⟨_, rfl⟩
    refine W_loop (fun tm h' => h' = h ∧ tm 0 = v ∧ tm 1 = .int .i64 2 ∧ ∃ (i : Nat) (y : Int), tm 7 = .int .i64 i ∧ tm 6 = .int .i64 y ∧ 1 ≤ i ∧ i ≤ 2 ∧ ((i = 1 ∧ -240 ≤ y ∧ y ≤ 255) ∨ (i = 2 ∧ -15360 ≤ y ∧ y ≤ 16383) ∨ (i = 3 ∧ -983040 ≤ y ∧ y ≤ 1048575) ∨ (i = 4 ∧ -62914560 ≤ y ∧ y ≤ 67108863)) ∧ G = valGo y ((b.take 2).drop i))
      (fun tm _ => (2 - intOf (tm 7)).toNat) ⟨rfl, (by first | rfl | (simp only [wk, wt, wl, ↓reduceIte, Nat.reduceEqDiff, Nat.reduceAdd, Nat.zero_add, not_false_eq_true, not_true_eq_false]; done) | (simp only [wk, wt, wl, ↓reduceIte, Nat.reduceEqDiff, Nat.reduceAdd, Nat.zero_add, not_false_eq_true, not_true_eq_false]; rfl)), (by first | rfl | (simp only [wk, wt, wl, ↓reduceIte, Nat.reduceEqDiff, Nat.reduceAdd, Nat.zero_add, not_false_eq_true, not_true_eq_false]; done) | (simp only [wk, wt, wl, ↓reduceIte, Nat.reduceEqDiff, Nat.reduceAdd, Nat.zero_add, not_false_eq_true, not_true_eq_false]; rfl)), 1, b.getD 0 0 - valOff 2, (by first | rfl | (simp only [wk, wt, wl, ↓reduceIte, Nat.reduceEqDiff, Nat.reduceAdd, Nat.zero_add, not_false_eq_true, not_true_eq_false]; done) | (simp only [wk, wt, wl, ↓reduceIte, Nat.reduceEqDiff, Nat.reduceAdd, Nat.zero_add, not_false_eq_true, not_true_eq_false]; rfl)), ?_, by omega, by omega, .inl ⟨rfl, by omega, by omega⟩, hG.symm⟩ ?_
    · simp only [wk, wt, wl, ↓reduceIte, Nat.reduceEqDiff, Nat.reduceAdd, Nat.zero_add, not_false_eq_true, not_true_eq_false, hvo, Int.sub_zero]
    rintro tm h' ⟨rfl, t0, t1, i, y, t7, t6, hi1, hi2, hy, hgo⟩
    simp only [wk, wt, wl, ↓reduceIte, Nat.reduceEqDiff, Nat.reduceAdd, Nat.zero_add, not_false_eq_true, not_true_eq_false, t0, t1, t7, t6]
    refine condK_dec (fun hd => ?_) (fun hd => ?_)
    · have hib : i < b.length := by omega
      have hit : i < (b.take 2).length := by rw [List.length_take]; omega
      rw [List.drop_eq_getElem_cons hit] at hgo
      have LX := RdI.at hv (t := 5) underlying5 rfl hib
      have ex : (b.take 2)[i] = b.getD i 0 := by rw [List.getElem_take, List.getD_eq_getElem?_getD, List.getElem?_eq_getElem hib]; rfl
      rw [ex] at hgo
      have hx := hB i
      generalize b.getD i 0 = x at LX hgo hx
      simp only [valGo] at hgo
      unfold isB at hx
      by_cases hbad : x < 128 ∨ 191 < x
      · rw [if_pos hbad] at hgo
        have fin : valueZ b 2 = -1 := by simp only [valueZ, hG, hgo]
        by_cases hl1 : x < 128
        · have e1 : decide (x < 128) = true := decide_eq_true hl1
          simp (disch := omega) only [wk, wt, wl, ↓reduceIte, Nat.reduceEqDiff, Nat.reduceAdd, Nat.zero_add, not_false_eq_true, not_true_eq_false, t0, t1, t7, t6, RdI.index hv underlying22 asz5 (q := .i64) (i := (i : Int)), Int.toNat_natCast, LX, e1]
          rw [fin]; exact ⟨rfl, trivial⟩
        · have e1 : decide (x < 128) = false := decide_eq_false hl1
          have e2 : decide (191 < x) = true := decide_eq_true (by omega)
          simp (disch := omega) only [wk, wt, wl, ↓reduceIte, Nat.reduceEqDiff, Nat.reduceAdd, Nat.zero_add, not_false_eq_true, not_true_eq_false, t0, t1, t7, t6, RdI.index hv underlying22 asz5 (q := .i64) (i := (i : Int)), Int.toNat_natCast, LX, e1, e2]
          rw [fin]; exact ⟨rfl, trivial⟩
      · rw [if_neg hbad] at hgo
        have e1 : decide (x < 128) = false := decide_eq_false (by omega)
        have e2 : decide (191 < x) = false := decide_eq_false (by omega)
        simp (disch := omega) only [wk, wt, wl, ↓reduceIte, Nat.reduceEqDiff, Nat.reduceAdd, Nat.zero_add, not_false_eq_true, not_true_eq_false, t0, t1, t7, t6, RdI.index hv underlying22 asz5 (q := .i64) (i := (i : Int)), Int.toNat_natCast, LX, e1, e2, aconv, IntWalk.i64_in, intOf_int]
        exact ⟨⟨i + 1, y * 64 + x - 128, by simp, rfl, by omega, by omega, by omega, hgo⟩, by omega⟩
    · have hie : i = 2 := by omega
      rw [List.drop_of_length_le (by rw [List.length_take]; omega)] at hgo
      simp only [valGo] at hgo
      by_cases hbad : y < 0 ∨ 1114111 < y
      · have fin : valueZ b 2 = -1 := by simp only [valueZ, hG, hgo]; rw [if_pos hbad]
        by_cases hl1 : y < 0
        · have e1 : decide (y < 0) = true := decide_eq_true hl1
          simp (disch := omega) only [wk, wt, wl, ↓reduceIte, Nat.reduceEqDiff, Nat.reduceAdd, Nat.zero_add, not_false_eq_true, not_true_eq_false, t0, t1, t7, t6, e1]
          rw [fin]; exact ⟨rfl, trivial⟩
        · have e1 : decide (y < 0) = false := decide_eq_false hl1
          have e2 : decide (1114111 < y) = true := decide_eq_true (by omega)
          simp (disch := omega) only [wk, wt, wl, ↓reduceIte, Nat.reduceEqDiff, Nat.reduceAdd, Nat.zero_add, not_false_eq_true, not_true_eq_false, t0, t1, t7, t6, e1, e2]
          rw [fin]; exact ⟨rfl, trivial⟩
      · have fin : valueZ b 2 = y := by simp only [valueZ, hG, hgo]; rw [if_neg hbad]
        have e1 : decide (y < 0) = false := decide_eq_false (by omega)
        have e2 : decide (1114111 < y) = false := decide_eq_false (by omega)
        simp (disch := omega) only [wk, wt, wl, ↓reduceIte, Nat.reduceEqDiff, Nat.reduceAdd, Nat.zero_add, not_false_eq_true, not_true_eq_false, t0, t1, t7, t6, e1, e2, aconv, IntWalk.i32_in]
        rw [fin]; exact ⟨rfl, trivial⟩
  · have d2 : decide ((3 : Int) = 2) = false := by decide
    have d3 : decide ((3 : Int) = 3) = true := by decide
    simp (disch := omega) only [wk, wt, wl, ↓reduceIte, Nat.reduceEqDiff, Nat.reduceAdd, Nat.zero_add, not_false_eq_true, not_true_eq_false, d2, d3, Int.cast_ofNat_Int, IntWalk.i64_in]
    have hvo : valOff 3 = 224 := by decide
    obtain ⟨G, hG⟩ : ∃ G, valGo (b.getD 0 0 - valOff 3) ((b.take 3).drop 1) = G := ⟨_, rfl⟩
    refine W_loop (fun tm h' => h' = h ∧ tm 0 = v ∧ tm 1 = .int .i64 3 ∧ ∃ (i : Nat) (y : Int), tm 7 = .int .i64 i ∧ tm 6 = .int .i64 y ∧ 1 ≤ i ∧ i ≤ 3 ∧ ((i = 1 ∧ -240 ≤ y ∧ y ≤ 255) ∨ (i = 2 ∧ -15360 ≤ y ∧ y ≤ 16383) ∨ (i = 3 ∧ -983040 ≤ y ∧ y ≤ 1048575) ∨ (i = 4 ∧ -62914560 ≤ y ∧ y ≤ 67108863)) ∧ G = valGo y ((b.take 3).drop i))
      (fun tm _ => (3 - intOf (tm 7)).toNat) ⟨rfl, (by first | rfl | (simp only [wk, wt, wl, ↓reduceIte, Nat.reduceEqDiff, Nat.reduceAdd, Nat.zero_add, not_false_eq_true, not_true_eq_false]; done) | (simp only [wk, wt, wl, ↓reduceIte, Nat.reduceEqDiff, Nat.reduceAdd, Nat.zero_add, not_false_eq_true, not_true_eq_false]; rfl)), (by first | rfl | (simp only [wk, wt, wl, ↓reduceIte, Nat.reduceEqDiff, Nat.reduceAdd, Nat.zero_add, not_false_eq_true, not_true_eq_false]; done) | (simp only [wk, wt, wl, ↓reduceIte, Nat.reduceEqDiff, Nat.reduceAdd, Nat.zero_add, not_false_eq_true, not_true_eq_false]; rfl)), 1, b.getD 0 0 - valOff 3, (by first | rfl | (simp only [wk, wt, wl, ↓reduceIte, Nat.reduceEqDiff, Nat.reduceAdd, Nat.zero_add, not_false_eq_true, not_true_eq_false]; done) | (simp only [wk, wt, wl, ↓reduceIte, Nat.reduceEqDiff, Nat.reduceAdd, Nat.zero_add, not_false_eq_true, not_true_eq_false]; rfl)), ?_, by omega, by omega, .inl ⟨rfl, by omega, by omega⟩, hG.symm⟩ ?_
    · simp only [wk, wt, wl, ↓reduceIte, Nat.reduceEqDiff, Nat.reduceAdd, Nat.zero_add, not_false_eq_true, not_true_eq_false, hvo, Int.sub_zero]
    rintro tm h' ⟨rfl, t0, t1, i, y, t7, t6, hi1, hi2, hy, hgo⟩
    simp only [wk, wt, wl, ↓reduceIte, Nat.reduceEqDiff, Nat.reduceAdd, Nat.zero_add, not_false_eq_true, not_true_eq_false, t0, t1, t7, t6]
    refine condK_dec (fun hd => ?_) (fun hd => ?_)
    · have hib : i < b.length := by omega
      have hit : i < (b.take 3).length := by rw [List.length_take]; omega
      rw [List.drop_eq_getElem_cons hit] at hgo
      have LX := RdI.at hv (t := 5) underlying5 rfl hib
      have ex : (b.take 3)[i] = b.getD i 0 := by rw [List.getElem_take, List.getD_eq_getElem?_getD, List.getElem?_eq_getElem hib]; rfl
      rw [ex] at hgo
      have hx := hB i
      generalize b.getD i 0 = x at LX hgo hx
      simp only [valGo] at hgo
      unfold isB at hx
      by_cases hbad : x < 128 ∨ 191 < x
      · rw [if_pos hbad] at hgo
        have fin : valueZ b 3 = -1 := by simp only [valueZ, hG, hgo]
        by_cases hl1 : x < 128
        · have e1 : decide (x < 128) = true := decide_eq_true hl1
          simp (disch := omega) only [wk, wt, wl, ↓reduceIte, Nat.reduceEqDiff, Nat.reduceAdd, Nat.zero_add, not_false_eq_true, not_true_eq_false, t0, t1, t7, t6, RdI.index hv underlying22 asz5 (q := .i64) (i := (i : Int)), Int.toNat_natCast, LX, e1]
          rw [fin]; exact ⟨rfl, trivial⟩
        · have e1 : decide (x < 128) = false := decide_eq_false hl1
          have e2 : decide (191 < x) = true := decide_eq_true (by omega)
          simp (disch := omega) only [wk, wt, wl, ↓reduceIte, Nat.reduceEqDiff, Nat.reduceAdd, Nat.zero_add, not_false_eq_true, not_true_eq_false, t0, t1, t7, t6, RdI.index hv underlying22 asz5 (q := .i64) (i := (i : Int)), Int.toNat_natCast, LX, e1, e2]
          rw [fin]; exact ⟨rfl, trivial⟩
      · rw [if_neg hbad] at hgo
        have e1 : decide (x < 128) = false := decide_eq_false (by omega)
        have e2 : decide (191 < x) = false := decide_eq_false (by omega)
        simp (disch := omega) only [wk, wt, wl, ↓reduceIte, Nat.reduceEqDiff, Nat.reduceAdd, Nat.zero_add, not_false_eq_true, not_true_eq_false, t0, t1, t7, t6, RdI.index hv underlying22 asz5 (q := .i64) (i := (i : Int)), Int.toNat_natCast, LX, e1, e2, aconv, IntWalk.i64_in, intOf_int]
        exact ⟨⟨i + 1, y * 64 + x - 128, by simp, rfl, by omega, by omega, by omega, hgo⟩, by omega⟩
    · have hie : i = 3 := by omega
      rw [List.drop_of_length_le (by rw [List.length_take]; omega)] at hgo
      simp only [valGo] at hgo
      by_cases hbad : y < 0 ∨ 1114111 < y
      · have fin : valueZ b 3 = -1 := by simp only [valueZ, hG, hgo]; rw [if_pos hbad]
        by_cases hl1 : y < 0
        · have e1 : decide (y < 0) = true := decide_eq_true hl1
          simp (disch := omega) only [wk, wt, wl, ↓reduceIte, Nat.reduceEqDiff, Nat.reduceAdd, Nat.zero_add, not_false_eq_true, not_true_eq_false, t0, t1, t7, t6, e1]
          rw [fin]; exact ⟨rfl, trivial⟩
        · have e1 : decide (y < 0) = false := decide_eq_false hl1
          have e2 : decide (1114111 < y) = true := decide_eq_true (by omega)
          simp (disch := omega) only [wk, wt, wl, ↓reduceIte, Nat.reduceEqDiff, Nat.reduceAdd, Nat.zero_add, not_false_eq_true, not_true_eq_false, t0, t1, t7, t6, e1, e2]
          rw [fin]; exact ⟨rfl, trivial⟩
      · have fin : valueZ b 3 = y := by simp only [valueZ, hG, hgo]; rw [if_neg hbad]
        have e1 : decide (y < 0) = false := decide_eq_false (by omega)
        have e2 : decide (1114111 < y) = false := decide_eq_false (by omega)
        simp (disch := omega) only [wk, wt, wl, ↓reduceIte, Nat.reduceEqDiff, Nat.reduceAdd, Nat.zero_add, not_false_eq_true, not_true_eq_false, t0, t1, t7, t6, e1, e2, aconv, IntWalk.i32_in]
        rw [fin]; exact ⟨rfl, trivial⟩
  · have d2 : decide ((4 : Int) = 2) = false := by decide
    have d3 : decide ((4 : Int) = 3) = false := by decide
    have d4 : decide ((4 : Int) = 4) = true := by decide
    simp (disch := omega) only [wk, wt, wl, ↓reduceIte, Nat.reduceEqDiff, Nat.reduceAdd, Nat.zero_add, not_false_eq_true, not_true_eq_false, d2, d3, d4, Int.cast_ofNat_Int, IntWalk.i64_in]
    have hvo : valOff 4 = 240 := by decide
    obtain ⟨G, hG⟩ : ∃ G, valGo (b.getD 0 0 - valOff 4) ((b.take 4).drop 1) = G := ⟨_, rfl⟩
    refine W_loop (fun tm h' => h' = h ∧ tm 0 = v ∧ tm 1 = .int .i64 4 ∧ ∃ (i : Nat) (y : Int), tm 7 = .int .i64 i ∧ tm 6 = .int .i64 y ∧ 1 ≤ i ∧ i ≤ 4 ∧ ((i = 1 ∧ -240 ≤ y ∧ y ≤ 255) ∨ (i = 2 ∧ -15360 ≤ y ∧ y ≤ 16383) ∨ (i = 3 ∧ -983040 ≤ y ∧ y ≤ 1048575) ∨ (i = 4 ∧ -62914560 ≤ y ∧ y ≤ 67108863)) ∧ G = valGo y ((b.take 4).drop i))
      (fun tm _ => (4 - intOf (tm 7)).toNat) ⟨rfl, (by first | rfl | (simp only [wk, wt, wl, ↓reduceIte, Nat.reduceEqDiff, Nat.reduceAdd, Nat.zero_add, not_false_eq_true, not_true_eq_false]; done) | (simp only [wk, wt, wl, ↓reduceIte, Nat.reduceEqDiff, Nat.reduceAdd, Nat.zero_add, not_false_eq_true, not_true_eq_false]; rfl)), (by first | rfl | (simp only [wk, wt, wl, ↓reduceIte, Nat.reduceEqDiff, Nat.reduceAdd, Nat.zero_add, not_false_eq_true, not_true_eq_false]; done) | (simp only [wk, wt, wl, ↓reduceIte, Nat.reduceEqDiff, Nat.reduceAdd, Nat.zero_add, not_false_eq_true, not_true_eq_false]; rfl)), 1, b.getD 0 0 - valOff 4, (by first | rfl | (simp only [wk, wt, wl, ↓reduceIte, Nat.reduceEqDiff, Nat.reduceAdd, Nat.zero_add, not_false_eq_true, not_true_eq_false]; done) | (simp only [wk, wt, wl, ↓reduceIte, Nat.reduceEqDiff, Nat.reduceAdd, Nat.zero_add, not_false_eq_true, not_true_eq_false]; rfl)), ?_, by omega, by omega, .inl ⟨rfl, by omega, by omega⟩, hG.symm⟩ ?_
    · simp only [wk, wt, wl, ↓reduceIte, Nat.reduceEqDiff, Nat.reduceAdd, Nat.zero_add, not_false_eq_true, not_true_eq_false, hvo, Int.sub_zero]
    rintro tm h' ⟨rfl, t0, t1, i, y, t7, t6, hi1, hi2, hy, hgo⟩
    simp only [wk, wt, wl, ↓reduceIte, Nat.reduceEqDiff, Nat.reduceAdd, Nat.zero_add, not_false_eq_true, not_true_eq_false, t0, t1, t7, t6]
    refine condK_dec (fun hd => ?_) (fun hd => ?_)
    · have hib : i < b.length := by omega
      have hit : i < (b.take 4).length := by rw [List.length_take]; omega
      rw [List.drop_eq_getElem_cons hit] at hgo
      have LX := RdI.at hv (t := 5) underlying5 rfl hib
      have ex : (b.take 4)[i] = b.getD i 0 := by rw [List.getElem_take, List.getD_eq_getElem?_getD, List.getElem?_eq_getElem hib]; rfl
      rw [ex] at hgo
      have hx := hB i
      generalize b.getD i 0 = x at LX hgo hx
      simp only [valGo] at hgo
      unfold isB at hx
      by_cases hbad : x < 128 ∨ 191 < x
      · rw [if_pos hbad] at hgo
        have fin : valueZ b 4 = -1 := by simp only [valueZ, hG, hgo]
        by_cases hl1 : x < 128
        · have e1 : decide (x < 128) = true := decide_eq_true hl1
          simp (disch := omega) only [wk, wt, wl, ↓reduceIte, Nat.reduceEqDiff, Nat.reduceAdd, Nat.zero_add, not_false_eq_true, not_true_eq_false, t0, t1, t7, t6, RdI.index hv underlying22 asz5 (q := .i64) (i := (i : Int)), Int.toNat_natCast, LX, e1]
          rw [fin]; exact ⟨rfl, trivial⟩
        · have e1 : decide (x < 128) = false := decide_eq_false hl1
          have e2 : decide (191 < x) = true := decide_eq_true (by omega)
          simp (disch := omega) only [wk, wt, wl, ↓reduceIte, Nat.reduceEqDiff, Nat.reduceAdd, Nat.zero_add, not_false_eq_true, not_true_eq_false, t0, t1, t7, t6, RdI.index hv underlying22 asz5 (q := .i64) (i := (i : Int)), Int.toNat_natCast, LX, e1, e2]
          rw [fin]; exact ⟨rfl, trivial⟩
      · rw [if_neg hbad] at hgo
        have e1 : decide (x < 128) = false := decide_eq_false (by omega)
        have e2 : decide (191 < x) = false := decide_eq_false (by omega)
        simp (disch := omega) only [wk, wt, wl, ↓reduceIte, Nat.reduceEqDiff, Nat.reduceAdd, Nat.zero_add, not_false_eq_true, not_true_eq_false, t0, t1, t7, t6, RdI.index hv underlying22 asz5 (q := .i64) (i := (i : Int)), Int.toNat_natCast, LX, e1, e2, aconv, IntWalk.i64_in, intOf_int]
        exact ⟨⟨i + 1, y * 64 + x - 128, by simp, rfl, by omega, by omega, by omega, hgo⟩, by omega⟩
    · have hie : i = 4 := by omega
      rw [List.drop_of_length_le (by rw [List.length_take]; omega)] at hgo
      simp only [valGo] at hgo
      by_cases hbad : y < 0 ∨ 1114111 < y
      · have fin : valueZ b 4 = -1 := by simp only [valueZ, hG, hgo]; rw [if_pos hbad]
        by_cases hl1 : y < 0
        · have e1 : decide (y < 0) = true := decide_eq_true hl1
          simp (disch := omega) only [wk, wt, wl, ↓reduceIte, Nat.reduceEqDiff, Nat.reduceAdd, Nat.zero_add, not_false_eq_true, not_true_eq_false, t0, t1, t7, t6, e1]
          rw [fin]; exact ⟨rfl, trivial⟩
        · have e1 : decide (y < 0) = false := decide_eq_false hl1
          have e2 : decide (1114111 < y) = true := decide_eq_true (by omega)
          simp (disch := omega) only [wk, wt, wl, ↓reduceIte, Nat.reduceEqDiff, Nat.reduceAdd, Nat.zero_add, not_false_eq_true, not_true_eq_false, t0, t1, t7, t6, e1, e2]
          rw [fin]; exact ⟨rfl, trivial⟩
      · have fin : valueZ b 4 = y := by simp only [valueZ, hG, hgo]; rw [if_neg hbad]
        have e1 : decide (y < 0) = false := decide_eq_false (by omega)
        have e2 : decide (1114111 < y) = false := decide_eq_false (by omega)
        simp (disch := omega) only [wk, wt, wl, ↓reduceIte, Nat.reduceEqDiff, Nat.reduceAdd, Nat.zero_add, not_false_eq_true, not_true_eq_false, t0, t1, t7, t6, e1, e2, aconv, IntWalk.i32_in]
        rw [fin]; exact ⟨rfl, trivial⟩
end Go.Proofs.Ytgllmnckphbkeaa.Am
