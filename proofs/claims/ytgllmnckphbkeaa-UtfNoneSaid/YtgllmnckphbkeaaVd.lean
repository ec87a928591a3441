/- With which rune bytes begin, and how many bytes a rune has: contracts of utf.lead, utf.Next, utf.Len and of the document's One, by walks. -/
import Derived.Test.YtgllmnckphbkeaaVc
import Derived.Test.YtgllmnckphbkeaaAmKind3
set_option linter.unusedSimpArgs false
set_option linter.unusedVariables false
set_option maxHeartbeats 4000000
namespace Go.Proofs.Ytgllmnckphbkeaa.Am
open Go Go.RowKit Go.Proofs.Try
theorem isB_getD {b : List Int} (hb : ∀ x, x ∈ b → isB x) (i : Nat) : isB (b.getD i 0) := by
  rw [List.getD_eq_getElem?_getD]
  cases h : b[i]? with
  | none => exact ⟨by simp, by simp⟩
  | some x => exact hb x (List.mem_of_getElem? h)
theorem shl6 {P : Program} {t : TypeId} {v : Int} : abin P .shl t (.int .i32 v) (.int .u64 6) = some (.int .i32 (IntKind.i32.wrap (v * 64))) := by
  simp [abin, ashift, IntKind.bits]
theorem lead_ok {c : Int} {h : Heap} (hc : isB c) : ACalls prog 28 #[.int .u8 c] h (fun v h' => v = .tuple #[.int .i64 (leadN c), .int .i32 (leadV c), .int .u8 (leadLo c), .int .u8 (leadHi c)] ∧ h' = h) := by
  obtain ⟨h0, h1⟩ := hc
  refine acalls_of_W func28 rfl (by kernel_rfl) (by kernel_rfl) (by simp [ntmps28]) ?_
  rcases (show c < 0 ∨ (0 ≤ c ∧ c ≤ 127) ∨ (128 ≤ c ∧ c < 194) ∨ (194 ≤ c ∧ c ≤ 223) ∨ (224 ≤ c ∧ c ≤ 224) ∨ (225 ≤ c ∧ c ≤ 236) ∨ (237 ≤ c ∧ c ≤ 237) ∨ (238 ≤ c ∧ c ≤ 239) ∨ (240 ≤ c ∧ c ≤ 240) ∨ (241 ≤ c ∧ c ≤ 243) ∨ (244 ≤ c ∧ c ≤ 244) ∨ 245 ≤ c from by omega) with hi | hi | hi | hi | hi | hi | hi | hi | hi | hi | hi | hi
  all_goals simp (disch := omega) only [wk, wt, wl, ↓reduceIte, Nat.reduceEqDiff, Nat.reduceAdd, Nat.zero_add, not_false_eq_true, not_true_eq_false, decide_eq_true, decide_eq_false, u8_and31, u8_and15, u8_and7, aconv, IntWalk.i32_in]
  all_goals (simp (disch := omega) only [leadN, leadV, leadLo, leadHi, if_pos, if_neg]; first | done | exact ⟨rfl, trivial⟩ | (exfalso; omega))
def nextT (b : List Int) : Value :=
  match nextZ b with
  | none => .tuple #[.int .i32 0, .int .i64 0, .bool true]
  | some p => .tuple #[.int .i32 p.1, .int .i64 p.2, .bool false]
theorem next_ok {v : Value} {b : List Int} {h : Heap} (hv : RdI prog h .u8 v b) (hb : ∀ x, x ∈ b → isB x) (hl : b.length ≤ 9223372036854775807) : ACalls prog 20 #[v] h (fun x h' => x = nextT b ∧ h' = h) := by
  refine acalls_of_W func20 rfl (by kernel_rfl) (by kernel_rfl) (by simp [ntmps20]) ?_
  simp only [wk, wt, wl, ↓reduceIte, Nat.reduceEqDiff, Nat.reduceAdd, Nat.zero_add, not_false_eq_true, not_true_eq_false, RdI.len hv underlying22]
  refine condK_dec (fun hc => ?_) (fun hc => ?_)
  · simp only [wk, wt, wl, ↓reduceIte, Nat.reduceEqDiff, Nat.reduceAdd, Nat.zero_add, not_false_eq_true, not_true_eq_false]
    have : b = [] := List.eq_nil_of_length_eq_zero (by omega)
    subst this
    exact ⟨rfl, trivial⟩
  · have hpos : 0 < b.length := by omega
    have hB := fun i => isB_getD hb i
    obtain ⟨c, t, rfl⟩ : ∃ c t, b = c :: t := by
      cases b with
      | nil => simp at hpos
      | cons c t => exact ⟨c, t, rfl⟩
    have hcB : isB c := hb c (by simp)
    simp (disch := omega) only [wk, wt, wl, ↓reduceIte, Nat.reduceEqDiff, Nat.reduceAdd, Nat.zero_add, not_false_eq_true, not_true_eq_false, RdI.index hv underlying22 asz5 (q := .i64) (i := 0), Int.toNat_zero, RdI.at hv underlying5 rfl (i := 0), List.getD_cons_zero]
    refine (lead_ok hcB).use_pure ?_
    simp (disch := omega) only [wk, wt, wl, ↓reduceIte, Nat.reduceEqDiff, Nat.reduceAdd, Nat.zero_add, not_false_eq_true, not_true_eq_false]
    refine condK_dec (fun hn => ?_) (fun hn => ?_)
    · simp only [wk, wt, wl, ↓reduceIte, Nat.reduceEqDiff, Nat.reduceAdd, Nat.zero_add, not_false_eq_true, not_true_eq_false]
      have : leadN c = 0 := by omega
      simp only [nextT, nextZ, this, if_true]
      exact ⟨rfl, trivial⟩
    · have hn0 : leadN c ≠ 0 := by omega
      have hn4 := leadN_le (c := c)
      simp only [wk, wt, wl, ↓reduceIte, Nat.reduceEqDiff, Nat.reduceAdd, Nat.zero_add, not_false_eq_true, not_true_eq_false]
      have hv0 : 0 ≤ leadV c ∧ leadV c < 32 ∨ leadN c = 1 := by
        rcases lead_cases c hcB.1 hcB.2 with g | g | g | g | g <;> omega
      have hN : nextZ (c :: t) = goZ (leadN c) (leadN c - 1) (leadV c) (leadLo c) (leadHi c) t := by simp only [nextZ, if_neg hn0]
      refine W_loop (fun tm h' => h' = h ∧ tm 0 = v ∧ tm 5 = .int .i64 (leadN c) ∧ ∃ (i : Nat) (x lo hi : Int), tm 9 = .int .i64 i ∧ tm 6 = .int .i32 x ∧ tm 7 = .int .u8 lo ∧ tm 8 = .int .u8 hi ∧ 1 ≤ i ∧ i ≤ leadN c ∧ i ≤ (c :: t).length ∧
        (leadN c = 1 ∨ (i = 1 ∧ 0 ≤ x ∧ x < 32) ∨ (i = 2 ∧ 0 ≤ x ∧ x < 2048) ∨ (i = 3 ∧ 0 ≤ x ∧ x < 131072) ∨ (i = 4 ∧ 0 ≤ x ∧ x < 8388608)) ∧ nextZ (c :: t) = goZ (leadN c) (leadN c - i) x lo hi ((c :: t).drop i)) (fun tm _ => (leadN c - intOf (tm 9)).toNat)
        ⟨rfl, (by first | rfl | (simp only [wk, wt, wl, ↓reduceIte, Nat.reduceEqDiff, Nat.reduceAdd, Nat.zero_add, not_false_eq_true, not_true_eq_false]; done) | (simp only [wk, wt, wl, ↓reduceIte, Nat.reduceEqDiff, Nat.reduceAdd, Nat.zero_add, not_false_eq_true, not_true_eq_false]; rfl)), (by first | rfl | (simp only [wk, wt, wl, ↓reduceIte, Nat.reduceEqDiff, Nat.reduceAdd, Nat.zero_add, not_false_eq_true, not_true_eq_false]; done) | (simp only [wk, wt, wl, ↓reduceIte, Nat.reduceEqDiff, Nat.reduceAdd, Nat.zero_add, not_false_eq_true, not_true_eq_false]; rfl)), 1, leadV c, leadLo c, leadHi c, (by first | rfl | (simp only [wk, wt, wl, ↓reduceIte, Nat.reduceEqDiff, Nat.reduceAdd, Nat.zero_add, not_false_eq_true, not_true_eq_false]; done) | (simp only [wk, wt, wl, ↓reduceIte, Nat.reduceEqDiff, Nat.reduceAdd, Nat.zero_add, not_false_eq_true, not_true_eq_false]; rfl)), (by first | rfl | (simp only [wk, wt, wl, ↓reduceIte, Nat.reduceEqDiff, Nat.reduceAdd, Nat.zero_add, not_false_eq_true, not_true_eq_false]; done) | (simp only [wk, wt, wl, ↓reduceIte, Nat.reduceEqDiff, Nat.reduceAdd, Nat.zero_add, not_false_eq_true, not_true_eq_false]; rfl)), (by first | rfl | (simp only [wk, wt, wl, ↓reduceIte, Nat.reduceEqDiff, Nat.reduceAdd, Nat.zero_add, not_false_eq_true, not_true_eq_false]; done) | (simp only [wk, wt, wl, ↓reduceIte, Nat.reduceEqDiff, Nat.reduceAdd, Nat.zero_add, not_false_eq_true, not_true_eq_false]; rfl)), (by first | rfl | (simp only [wk, wt, wl, ↓reduceIte, Nat.reduceEqDiff, Nat.reduceAdd, Nat.zero_add, not_false_eq_true, not_true_eq_false]; done) | (simp only [wk, wt, wl, ↓reduceIte, Nat.reduceEqDiff, Nat.reduceAdd, Nat.zero_add, not_false_eq_true, not_true_eq_false]; rfl)), by omega, by omega, by simp, by omega, by rw [hN]; rfl⟩ ?_
      rintro tm h' ⟨rfl, t0, t5, i, x, lo, hi, t9, t6, t7, t8, hi1, hi2, hi3, hx, hgo⟩
      simp only [wk, wt, wl, ↓reduceIte, Nat.reduceEqDiff, Nat.reduceAdd, Nat.zero_add, not_false_eq_true, not_true_eq_false, t0, t5, t9, t6, t7, t8]
      refine condK_dec (fun hd => ?_) (fun hd => ?_)
      · obtain ⟨k, hk⟩ : ∃ k, leadN c - i = k + 1 := ⟨leadN c - i - 1, by omega⟩
        rw [hk] at hgo
        simp only [wk, wt, wl, ↓reduceIte, Nat.reduceEqDiff, Nat.reduceAdd, Nat.zero_add, not_false_eq_true, not_true_eq_false, t0, t9, RdI.len hv underlying22]
        refine condK_dec (fun he => ?_) (fun he => ?_)
        · rw [List.drop_of_length_le (by omega)] at hgo
          simp only [wk, wt, wl, ↓reduceIte, Nat.reduceEqDiff, Nat.reduceAdd, Nat.zero_add, not_false_eq_true, not_true_eq_false]
          simp [nextT, hgo, goZ]
        · have hlt : i < (c :: t).length := by omega
          rw [List.drop_eq_getElem_cons hlt] at hgo
          have hy := hB i
          have LX := RdI.at hv (t := 5) underlying5 rfl hlt
          have ey : (c :: t)[i] = (c :: t).getD i 0 := by rw [List.getD_eq_getElem?_getD, List.getElem?_eq_getElem hlt]; rfl
          rw [ey] at hgo
          generalize (c :: t).getD i 0 = y at hy LX hgo
          simp only [goZ] at hgo
          by_cases hbad : y < lo ∨ hi < y
          · rw [if_pos hbad] at hgo
            have fin : nextT (c :: t) = .tuple #[.int .i32 65533, .int .i64 1, .bool false] := by simp only [nextT, hgo]; rfl
            by_cases hl1 : y < lo
            · have d1 : decide (y < lo) = true := decide_eq_true hl1
              simp (disch := omega) only [wk, wt, wl, ↓reduceIte, Nat.reduceEqDiff, Nat.reduceAdd, Nat.zero_add, not_false_eq_true, not_true_eq_false, t0, t5, t9, t6, t7, t8, RdI.index hv underlying22 asz5 (q := .i64) (i := (i : Int)), Int.toNat_natCast, LX, d1]
              rw [fin]; exact ⟨rfl, trivial⟩
            · have d1 : decide (y < lo) = false := decide_eq_false hl1
              have d2 : decide (hi < y) = true := decide_eq_true (by omega)
              simp (disch := omega) only [wk, wt, wl, ↓reduceIte, Nat.reduceEqDiff, Nat.reduceAdd, Nat.zero_add, not_false_eq_true, not_true_eq_false, t0, t5, t9, t6, t7, t8, RdI.index hv underlying22 asz5 (q := .i64) (i := (i : Int)), Int.toNat_natCast, LX, d1, d2]
              rw [fin]; exact ⟨rfl, trivial⟩
          · rw [if_neg hbad] at hgo
            have d1 : decide (y < lo) = false := decide_eq_false (by omega)
            have d2 : decide (hi < y) = false := decide_eq_false (by omega)
            obtain ⟨hy0, hy1⟩ := hy
            have hxr : 0 ≤ x ∧ x < 131072 := by omega
            simp (disch := omega) only [wk, wt, wl, ↓reduceIte, Nat.reduceEqDiff, Nat.reduceAdd, Nat.zero_add, not_false_eq_true, not_true_eq_false, t0, t5, t9, t6, t7, t8, RdI.index hv underlying22 asz5 (q := .i64) (i := (i : Int)), Int.toNat_natCast, LX, d1, d2, shl6, u8_and63, aconv, IntWalk.i32_in, i32_or6, IntWalk.i64_in, intOf_int]
            refine ⟨⟨i + 1, x * 64 + y % 64, 128, 191, by simp, rfl, rfl, rfl, by omega, by omega, by omega, by omega, ?_⟩, by omega⟩
            rw [hgo, show leadN c - (i + 1) = k by omega]
      · have hie : leadN c - i = 0 := by omega
        rw [hie] at hgo
        simp only [wk, wt, wl, ↓reduceIte, Nat.reduceEqDiff, Nat.reduceAdd, Nat.zero_add, not_false_eq_true, not_true_eq_false, t0, t5, t6]
        simp [nextT, hgo, goZ]
def lenZ (r : Int) : Nat := (encR r).length
theorem lenZ_bad {r : Int} (h : validB r = false) : lenZ r = 3 := by simp [lenZ, encR, fixR, h, encV]
theorem len_ok {r : Int} {h : Heap} (h0 : isR r) : ACalls prog 16 #[.int .i32 r] h (fun v h' => v = .int .i64 (lenZ r) ∧ h' = h) := by
  refine acalls_of_W func16 rfl (by kernel_rfl) (by kernel_rfl) (by simp [ntmps16]) ?_
  simp only [wk, wt, wl, ↓reduceIte, Nat.reduceEqDiff, Nat.reduceAdd, Nat.zero_add, not_false_eq_true, not_true_eq_false]
  refine (valid_ok h0).use_pure ?_
  cases hv : validB r with
  | false =>
    simp only [wk, wt, wl, ↓reduceIte, Nat.reduceEqDiff, Nat.reduceAdd, Nat.zero_add, not_false_eq_true, not_true_eq_false, Bool.not_false]
    rw [lenZ_bad hv]; exact ⟨rfl, trivial⟩
  | true =>
    have hf : fixR r = r := by simp [fixR, hv]
    simp only [wk, wt, wl, ↓reduceIte, Nat.reduceEqDiff, Nat.reduceAdd, Nat.zero_add, not_false_eq_true, not_true_eq_false, Bool.not_true]
    repeat' (first
      | (with_reducible refine condK_dec (fun hc => ?_) (fun hc => ?_) <;> simp only [wk, wt, wl, ↓reduceIte, Nat.reduceEqDiff, Nat.reduceAdd, Nat.zero_add, not_false_eq_true, not_true_eq_false, hc])
      | (with_reducible refine condK_split (fun hc => ?_) (fun hc => ?_) <;> simp only [wk, wt, wl, ↓reduceIte, Nat.reduceEqDiff, Nat.reduceAdd, Nat.zero_add, not_false_eq_true, not_true_eq_false, hc])
      | (with_reducible refine gateO_dec (fun hc => ?_) (fun hc => ?_) <;> simp only [wk, wt, wl, ↓reduceIte, Nat.reduceEqDiff, Nat.reduceAdd, Nat.zero_add, not_false_eq_true, not_true_eq_false, hc])
      | (with_reducible refine gateO_decF (fun hc => ?_) (fun hc => ?_) <;> simp only [wk, wt, wl, ↓reduceIte, Nat.reduceEqDiff, Nat.reduceAdd, Nat.zero_add, not_false_eq_true, not_true_eq_false, hc])
      | (with_reducible refine gateO_boolT (fun hc => ?_) (fun hc => ?_) <;> simp only [wk, wt, wl, ↓reduceIte, Nat.reduceEqDiff, Nat.reduceAdd, Nat.zero_add, not_false_eq_true, not_true_eq_false, hc])
      | (with_reducible refine gateO_boolF (fun hc => ?_) (fun hc => ?_) <;> simp only [wk, wt, wl, ↓reduceIte, Nat.reduceEqDiff, Nat.reduceAdd, Nat.zero_add, not_false_eq_true, not_true_eq_false, hc]))
    all_goals (simp (disch := omega) only [lenZ, encR, hf, encV, if_pos, if_neg]; first | done | rfl | exact ⟨rfl, trivial⟩)
def bI (l : List Int) : List Value := l.map (Value.int .u8)
end Go.Proofs.Ytgllmnckphbkeaa.Am
