/- The texts of this seat, one behind another (part 4 of 16): the frame (an abstract machine), the contracts of functions, the laws. -/
import Derived.Test.YtiebaefhlacekaaGreatDoorZ3
import Derived.Test.YtiebaefhlacekaaGreatDoorAmKind3
section
/- With which rune bytes begin, and how many bytes a rune has: contracts of utf.lead, utf.Next, utf.Len and of the document's One, by walks. -/
set_option linter.unusedSimpArgs false
set_option linter.unusedVariables false
set_option maxRecDepth 20000
set_option maxHeartbeats 4000000
namespace Go.Proofs.YtiebaefhlacekaaGreatDoor.Am
open Go Go.RowKit Go.Proofs.Tryz
theorem isB_getD {b : List Int} (hb : ∀ x, x ∈ b → isB x) (i : Nat) : isB (b.getD i 0) := by
  rw [List.getD_eq_getElem?_getD]
  cases h : b[i]? with
  | none => exact ⟨by simp, by simp⟩
  | some x => exact hb x (List.mem_of_getElem? h)
theorem shl6 {P : Program} {t : TypeId} {v : Int} : abin P .shl t (.int .i32 v) (.int .u64 6) = some (.int .i32 (IntKind.i32.wrap (v * 64))) := by
  simp [abin, ashift, IntKind.bits]
theorem lead_ok {c : Int} {h : Heap} (hc : isB c) : ACalls prog 81 #[.int .u8 c] h (fun v h' => v = .tuple #[.int .i64 (leadN c), .int .i32 (leadV c), .int .u8 (leadLo c), .int .u8 (leadHi c)] ∧ h' = h) := by
  obtain ⟨h0, h1⟩ := hc
  refine acalls_of_W func81 rfl (by kernel_rfl) (by kernel_rfl) (by simp [ntmps81]) ?_
  rcases (show c < 0 ∨ (0 ≤ c ∧ c ≤ 127) ∨ (128 ≤ c ∧ c < 194) ∨ (194 ≤ c ∧ c ≤ 223) ∨ (224 ≤ c ∧ c ≤ 224) ∨ (225 ≤ c ∧ c ≤ 236) ∨ (237 ≤ c ∧ c ≤ 237) ∨ (238 ≤ c ∧ c ≤ 239) ∨ (240 ≤ c ∧ c ≤ 240) ∨ (241 ≤ c ∧ c ≤ 243) ∨ (244 ≤ c ∧ c ≤ 244) ∨ 245 ≤ c from by omega) with hi | hi | hi | hi | hi | hi | hi | hi | hi | hi | hi | hi
  all_goals simp (disch := omega) only [wk, wt, wl, ↓reduceIte, Nat.reduceEqDiff, Nat.reduceAdd, Nat.zero_add, not_false_eq_true, not_true_eq_false, decide_eq_true, decide_eq_false, u8_and31, u8_and15, u8_and7, aconv, IntWalk.i32_in]
  all_goals (simp (disch := omega) only [leadN, leadV, leadLo, leadHi, if_pos, if_neg]; first | done | exact ⟨rfl, trivial⟩ | (exfalso; omega))
def nextT (b : List Int) : Value :=
  match nextZ b with
  | none => .tuple #[.int .i32 0, .int .i64 0, .bool true]
  | some p => .tuple #[.int .i32 p.1, .int .i64 p.2, .bool false]
theorem next_ok {v : Value} {b : List Int} {h : Heap} (hv : RdI prog h .u8 v b) (hb : ∀ x, x ∈ b → isB x) (hl : b.length ≤ 9223372036854775807) : ACalls prog 59 #[v] h (fun x h' => x = nextT b ∧ h' = h) := by
  refine acalls_of_W func59 rfl (by kernel_rfl) (by kernel_rfl) (by simp [ntmps59]) ?_
  simp only [wk, wt, wl, ↓reduceIte, Nat.reduceEqDiff, Nat.reduceAdd, Nat.zero_add, not_false_eq_true, not_true_eq_false, RdI.len hv underlying32]
  refine condK_dec (fun hc => ?_) (fun hc => ?_)
  · simp only [wk, wt, wl, ↓reduceIte, Nat.reduceEqDiff, Nat.reduceAdd, Nat.zero_add, not_false_eq_true, not_true_eq_false]
    have : b = [] := List.eq_nil_of_length_eq_zero (by omega)
    subst this
    exact ⟨rfl, trivial⟩
  · have hpos : 0 < b.length := by omega
    have hB := fun i => isB_getD hb i
    obtain ⟨c, t, rfl⟩ : ∃ c t, b = c :: t := by
      cases b with
      | nil => simp at hpos
      | cons c t => exact ⟨c, t, rfl⟩
    have hcB : isB c := hb c (by simp)
    simp (disch := omega) only [wk, wt, wl, ↓reduceIte, Nat.reduceEqDiff, Nat.reduceAdd, Nat.zero_add, not_false_eq_true, not_true_eq_false, RdI.index hv underlying32 asz5 (q := .i64) (i := 0), Int.toNat_zero, RdI.at hv underlying5 rfl (i := 0), List.getD_cons_zero]
    refine (lead_ok hcB).use_pure ?_
    simp (disch := omega) only [wk, wt, wl, ↓reduceIte, Nat.reduceEqDiff, Nat.reduceAdd, Nat.zero_add, not_false_eq_true, not_true_eq_false]
    refine condK_dec (fun hn => ?_) (fun hn => ?_)
    · simp only [wk, wt, wl, ↓reduceIte, Nat.reduceEqDiff, Nat.reduceAdd, Nat.zero_add, not_false_eq_true, not_true_eq_false]
      have : leadN c = 0 := by omega
      simp only [nextT, nextZ, this, if_true]
      exact ⟨rfl, trivial⟩
    · have hn0 : leadN c ≠ 0 := by omega
      have hn4 := leadN_le (c := c)
      simp only [wk, wt, wl, ↓reduceIte, Nat.reduceEqDiff, Nat.reduceAdd, Nat.zero_add, not_false_eq_true, not_true_eq_false]
      have hv0 : 0 ≤ leadV c ∧ leadV c < 32 ∨ leadN c = 1 := by
        rcases lead_cases c hcB.1 hcB.2 with g | g | g | g | g <;> omega
      have hN : nextZ (c :: t) = goZ (leadN c) (leadN c - 1) (leadV c) (leadLo c) (leadHi c) t := by simp only [nextZ, if_neg hn0]
      refine W_loop (fun tm h' => h' = h ∧ tm 0 = v ∧ tm 5 = .int .i64 (leadN c) ∧ ∃ (i : Nat) (x lo hi : Int), tm 9 = .int .i64 i ∧ tm 6 = .int .i32 x ∧ tm 7 = .int .u8 lo ∧ tm 8 = .int .u8 hi ∧ 1 ≤ i ∧ i ≤ leadN c ∧ i ≤ (c :: t).length ∧
        (leadN c = 1 ∨ (i = 1 ∧ 0 ≤ x ∧ x < 32) ∨ (i = 2 ∧ 0 ≤ x ∧ x < 2048) ∨ (i = 3 ∧ 0 ≤ x ∧ x < 131072) ∨ (i = 4 ∧ 0 ≤ x ∧ x < 8388608)) ∧ nextZ (c :: t) = goZ (leadN c) (leadN c - i) x lo hi ((c :: t).drop i)) (fun tm _ => (leadN c - intOf (tm 9)).toNat)
        ⟨rfl, (by first | rfl | (simp only [wk, wt, wl, ↓reduceIte, Nat.reduceEqDiff, Nat.reduceAdd, Nat.zero_add, not_false_eq_true, not_true_eq_false]; done) | (simp only [wk, wt, wl, ↓reduceIte, Nat.reduceEqDiff, Nat.reduceAdd, Nat.zero_add, not_false_eq_true, not_true_eq_false]; rfl)), (by first | rfl | (simp only [wk, wt, wl, ↓reduceIte, Nat.reduceEqDiff, Nat.reduceAdd, Nat.zero_add, not_false_eq_true, not_true_eq_false]; done) | (simp only [wk, wt, wl, ↓reduceIte, Nat.reduceEqDiff, Nat.reduceAdd, Nat.zero_add, not_false_eq_true, not_true_eq_false]; rfl)), 1, leadV c, leadLo c, leadHi c, (by first | rfl | (simp only [wk, wt, wl, ↓reduceIte, Nat.reduceEqDiff, Nat.reduceAdd, Nat.zero_add, not_false_eq_true, not_true_eq_false]; done) | (simp only [wk, wt, wl, ↓reduceIte, Nat.reduceEqDiff, Nat.reduceAdd, Nat.zero_add, not_false_eq_true, not_true_eq_false]; rfl)), (by first | rfl | (simp only [wk, wt, wl, ↓reduceIte, Nat.reduceEqDiff, Nat.reduceAdd, Nat.zero_add, not_false_eq_true, not_true_eq_false]; done) | (simp only [wk, wt, wl, ↓reduceIte, Nat.reduceEqDiff, Nat.reduceAdd, Nat.zero_add, not_false_eq_true, not_true_eq_false]; rfl)), (by first | rfl | (simp only [wk, wt, wl, ↓reduceIte, Nat.reduceEqDiff, Nat.reduceAdd, Nat.zero_add, not_false_eq_true, not_true_eq_false]; done) | (simp only [wk, wt, wl, ↓reduceIte, Nat.reduceEqDiff, Nat.reduceAdd, Nat.zero_add, not_false_eq_true, not_true_eq_false]; rfl)), (by first | rfl | (simp only [wk, wt, wl, ↓reduceIte, Nat.reduceEqDiff, Nat.reduceAdd, Nat.zero_add, not_false_eq_true, not_true_eq_false]; done) | (simp only [wk, wt, wl, ↓reduceIte, Nat.reduceEqDiff, Nat.reduceAdd, Nat.zero_add, not_false_eq_true, not_true_eq_false]; rfl)), by omega, by omega, by simp, by omega, by rw [hN]; rfl⟩ ?_
      rintro tm h' ⟨rfl, t0, t5, i, x, lo, hi, t9, t6, t7, t8, hi1, hi2, hi3, hx, hgo⟩
      simp only [wk, wt, wl, ↓reduceIte, Nat.reduceEqDiff, Nat.reduceAdd, Nat.zero_add, not_false_eq_true, not_true_eq_false, t0, t5, t9, t6, t7, t8]
      refine condK_dec (fun hd => ?_) (fun hd => ?_)
      · obtain ⟨k, hk⟩ : ∃ k, leadN c - i = k + 1 := ⟨leadN c - i - 1, by omega⟩
        rw [hk] at hgo
        simp only [wk, wt, wl, ↓reduceIte, Nat.reduceEqDiff, Nat.reduceAdd, Nat.zero_add, not_false_eq_true, not_true_eq_false, t0, t9, RdI.len hv underlying32]
        refine condK_dec (fun he => ?_) (fun he => ?_)
        · rw [List.drop_of_length_le (by omega)] at hgo
          simp only [wk, wt, wl, ↓reduceIte, Nat.reduceEqDiff, Nat.reduceAdd, Nat.zero_add, not_false_eq_true, not_true_eq_false]
          simp [nextT, hgo, goZ]
        · have hlt : i < (c :: t).length := by omega
          rw [List.drop_eq_getElem_cons hlt] at hgo
          have hy := hB i
          have LX := RdI.at hv (t := 5) underlying5 rfl hlt
          have ey : (c :: t)[i] = (c :: t).getD i 0 := by rw [List.getD_eq_getElem?_getD, List.getElem?_eq_getElem hlt]; rfl
          rw [ey] at hgo
          generalize (c :: t).getD i 0 = y at hy LX hgo
          simp only [goZ] at hgo
          by_cases hbad : y < lo ∨ hi < y
          · rw [if_pos hbad] at hgo
            have fin : nextT (c :: t) = .tuple #[.int .i32 65533, .int .i64 1, .bool false] := by simp only [nextT, hgo]; rfl
            by_cases hl1 : y < lo
            · have d1 : decide (y < lo) = true := decide_eq_true hl1
              simp (disch := omega) only [wk, wt, wl, ↓reduceIte, Nat.reduceEqDiff, Nat.reduceAdd, Nat.zero_add, not_false_eq_true, not_true_eq_false, t0, t5, t9, t6, t7, t8, RdI.index hv underlying32 asz5 (q := .i64) (i := (i : Int)), Int.toNat_natCast, LX, d1]
              rw [fin]; exact ⟨rfl, trivial⟩
            · have d1 : decide (y < lo) = false := decide_eq_false hl1
              have d2 : decide (hi < y) = true := decide_eq_true (by omega)
              simp (disch := omega) only [wk, wt, wl, ↓reduceIte, Nat.reduceEqDiff, Nat.reduceAdd, Nat.zero_add, not_false_eq_true, not_true_eq_false, t0, t5, t9, t6, t7, t8, RdI.index hv underlying32 asz5 (q := .i64) (i := (i : Int)), Int.toNat_natCast, LX, d1, d2]
              rw [fin]; exact ⟨rfl, trivial⟩
          · rw [if_neg hbad] at hgo
            have d1 : decide (y < lo) = false := decide_eq_false (by omega)
            have d2 : decide (hi < y) = false := decide_eq_false (by omega)
            obtain ⟨hy0, hy1⟩ := hy
            have hxr : 0 ≤ x ∧ x < 131072 := by omega
            simp (disch := omega) only [wk, wt, wl, ↓reduceIte, Nat.reduceEqDiff, Nat.reduceAdd, Nat.zero_add, not_false_eq_true, not_true_eq_false, t0, t5, t9, t6, t7, t8, RdI.index hv underlying32 asz5 (q := .i64) (i := (i : Int)), Int.toNat_natCast, LX, d1, d2, shl6, u8_and63, aconv, IntWalk.i32_in, i32_or6, IntWalk.i64_in, intOf_int]
            refine ⟨⟨i + 1, x * 64 + y % 64, 128, 191, by simp, rfl, rfl, rfl, by omega, by omega, by omega, by omega, ?_⟩, by omega⟩
            rw [hgo, show leadN c - (i + 1) = k by omega]
      · have hie : leadN c - i = 0 := by omega
        rw [hie] at hgo
        simp only [wk, wt, wl, ↓reduceIte, Nat.reduceEqDiff, Nat.reduceAdd, Nat.zero_add, not_false_eq_true, not_true_eq_false, t0, t5, t6]
        simp [nextT, hgo, goZ]
def lenZ (r : Int) : Nat := (encR r).length
theorem lenZ_bad {r : Int} (h : validB r = false) : lenZ r = 3 := by simp [lenZ, encR, fixR, h, encV]
theorem len_ok {r : Int} {h : Heap} (h0 : isR r) : ACalls prog 73 #[.int .i32 r] h (fun v h' => v = .int .i64 (lenZ r) ∧ h' = h) := by
  refine acalls_of_W func73 rfl (by kernel_rfl) (by kernel_rfl) (by simp [ntmps73]) ?_
  simp only [wk, wt, wl, ↓reduceIte, Nat.reduceEqDiff, Nat.reduceAdd, Nat.zero_add, not_false_eq_true, not_true_eq_false]
  refine (valid_ok h0).use_pure ?_
  cases hv : validB r with
  | false =>
    simp only [wk, wt, wl, ↓reduceIte, Nat.reduceEqDiff, Nat.reduceAdd, Nat.zero_add, not_false_eq_true, not_true_eq_false, Bool.not_false]
    rw [lenZ_bad hv]; exact ⟨rfl, trivial⟩
  | true =>
    have hf : fixR r = r := by simp [fixR, hv]
    simp only [wk, wt, wl, ↓reduceIte, Nat.reduceEqDiff, Nat.reduceAdd, Nat.zero_add, not_false_eq_true, not_true_eq_false, Bool.not_true]
    repeat' (first
      | (with_reducible refine condK_dec (fun hc => ?_) (fun hc => ?_) <;> simp only [wk, wt, wl, ↓reduceIte, Nat.reduceEqDiff, Nat.reduceAdd, Nat.zero_add, not_false_eq_true, not_true_eq_false, hc])
      | (with_reducible refine condK_split (fun hc => ?_) (fun hc => ?_) <;> simp only [wk, wt, wl, ↓reduceIte, Nat.reduceEqDiff, Nat.reduceAdd, Nat.zero_add, not_false_eq_true, not_true_eq_false, hc])
      | (with_reducible refine gateO_dec (fun hc => ?_) (fun hc => ?_) <;> simp only [wk, wt, wl, ↓reduceIte, Nat.reduceEqDiff, Nat.reduceAdd, Nat.zero_add, not_false_eq_true, not_true_eq_false, hc])
      | (with_reducible refine gateO_decF (fun hc => ?_) (fun hc => ?_) <;> simp only [wk, wt, wl, ↓reduceIte, Nat.reduceEqDiff, Nat.reduceAdd, Nat.zero_add, not_false_eq_true, not_true_eq_false, hc])
      | (with_reducible refine gateO_boolT (fun hc => ?_) (fun hc => ?_) <;> simp only [wk, wt, wl, ↓reduceIte, Nat.reduceEqDiff, Nat.reduceAdd, Nat.zero_add, not_false_eq_true, not_true_eq_false, hc])
      | (with_reducible refine gateO_boolF (fun hc => ?_) (fun hc => ?_) <;> simp only [wk, wt, wl, ↓reduceIte, Nat.reduceEqDiff, Nat.reduceAdd, Nat.zero_add, not_false_eq_true, not_true_eq_false, hc]))
    all_goals (simp (disch := omega) only [lenZ, encR, hf, encV, if_pos, if_neg]; first | done | rfl | exact ⟨rfl, trivial⟩)
def bI (l : List Int) : List Value := l.map (Value.int .u8)
end Go.Proofs.YtiebaefhlacekaaGreatDoor.Am
end
section
/- The bytes of runes: contracts of utf.put, utf.Encode and of the document's One and Encode, by walks. -/
set_option linter.unusedSimpArgs false
set_option linter.unusedVariables false
set_option maxRecDepth 20000
set_option maxHeartbeats 4000000
namespace Go.Proofs.YtiebaefhlacekaaGreatDoor.Am
open Go Go.RowKit Go.Proofs.Tryz
def tailB (x : Int) : Nat → List Int
  | 0 => []
  | k + 1 => (128 + x / 64 ^ k % 64) :: tailB x k
theorem encV_tail {x : Int} (h0 : 0 ≤ x) (h1 : x ≤ 1114111) : (x < 128 ∧ encV x = [x]) ∨ (128 ≤ x ∧ x < 2048 ∧ encV x = [192 + x / 64] ++ tailB x 1) ∨ (2048 ≤ x ∧ x < 65536 ∧ encV x = [224 + x / 4096] ++ tailB x 2) ∨ (65536 ≤ x ∧ encV x = [240 + x / 262144] ++ tailB x 3) := by
  unfold encV
  repeat' split
  · exact .inl ⟨by omega, rfl⟩
  · refine .inr (.inl ⟨by omega, by omega, ?_⟩); simp [tailB]
  · refine .inr (.inr (.inl ⟨by omega, by omega, ?_⟩)); simp [tailB]
  · refine .inr (.inr (.inr ⟨by omega, ?_⟩)); simp [tailB]
theorem encV_isB {x : Int} (h0 : 0 ≤ x) (h1 : x ≤ 1114111) : ∀ y, y ∈ encV x → isB y := by
  unfold encV isB
  intro y hy
  repeat' split at hy
  all_goals (simp only [List.mem_cons, List.not_mem_nil, or_false] at hy; omega)
theorem fixR_range {r : Int} : 0 ≤ fixR r ∧ fixR r ≤ 1114111 := by
  have := fixR_valid (r := r)
  simp only [validB, decide_eq_true_eq] at this
  omega
theorem encR_isB {r : Int} : ∀ y, y ∈ encR r → isB y := encV_isB fixR_range.1 fixR_range.2
theorem lenZ_range {r : Int} : 1 ≤ lenZ r ∧ lenZ r ≤ 4 := by
  have := encV_tail fixR_range.1 (fixR_range (r := r)).2
  unfold lenZ encR
  rcases this with h | h | h | h
  · rw [h.2]; simp
  · rw [h.2.2]; simp [tailB]
  · rw [h.2.2]; simp [tailB]
  · rw [h.2]; simp [tailB]
theorem shr0 {P : Program} {t : TypeId} {x : Int} (h : 0 ≤ x) : abin P .shr t (.int .i32 x) (.int .i64 0) = some (.int .i32 x) := by simp [abin, ashift]
theorem shr6 {P : Program} {t : TypeId} {x : Int} (h : 0 ≤ x) : abin P .shr t (.int .i32 x) (.int .i64 6) = some (.int .i32 (x / 64)) := by
  simp [abin, ashift, IntKind.bits, Int.fdiv_eq_ediv_of_nonneg]
theorem shr12 {P : Program} {t : TypeId} {x : Int} (h : 0 ≤ x) : abin P .shr t (.int .i32 x) (.int .i64 12) = some (.int .i32 (x / 4096)) := by
  simp [abin, ashift, IntKind.bits, Int.fdiv_eq_ediv_of_nonneg]
theorem shr18 {P : Program} {t : TypeId} {x : Int} (h : 0 ≤ x) : abin P .shr t (.int .i32 x) (.int .i64 18) = some (.int .i32 (x / 262144)) := by
  simp [abin, ashift, IntKind.bits, Int.fdiv_eq_ediv_of_nonneg]
theorem shl_lead {P : Program} {t : TypeId} : abin P .shl t (.int .u8 240) (.int .i64 0) = some (.int .u8 240) ∧ abin P .shl t (.int .u8 240) (.int .i64 1) = some (.int .u8 224) ∧ abin P .shl t (.int .u8 240) (.int .i64 2) = some (.int .u8 192) := by
  refine ⟨?_, ?_, ?_⟩ <;> simp [abin, ashift, IntKind.bits] <;> decide
theorem one_ok {r : Int} {h : Heap} (h0 : isR r) : ACalls prog 54 #[.int .i32 r] h (fun v h' => v = .slice (some ⟨h.size, 0, none⟩) (encR r).length ((encR r).length + 1) ∧ h' = h.new 5 (bI (encR r))) := by
  have hf := fixR_range (r := r)
  have key : ∀ x : Int, 0 ≤ x → x ≤ 1114111 → fixR r = x → (encR r = encV x) := fun x _ _ e => by rw [encR, e]
  refine acalls_of_W func54 rfl (by kernel_rfl) (by kernel_rfl) (by simp [ntmps54]) ?_
  simp only [wk, wt, wl, ↓reduceIte, Nat.reduceEqDiff, Nat.reduceAdd, Nat.zero_add, not_false_eq_true, not_true_eq_false]
  refine (refValid_ok h0).use_pure ?_
  have fin : ∀ {ys : List Int}, encV (fixR r) = ys → ∀ {n : Nat}, ys.length = n → (Value.slice (some ⟨h.size, 0, none⟩) n (n + 1) = .slice (some ⟨h.size, 0, none⟩) (encR r).length ((encR r).length + 1) ∧ h.new 5 (bI ys) = h.new 5 (bI (encR r))) := by
    intro ys e n hn
    have : encR r = ys := e
    rw [this, hn]; exact ⟨rfl, rfl⟩
  cases hv : validB r with
  | false =>
    have hx : fixR r = 65533 := by simp [fixR, hv]
    simp (disch := omega) only [wk, wt, wl, ↓reduceIte, Nat.reduceEqDiff, Nat.reduceAdd, Nat.zero_add, not_false_eq_true, not_true_eq_false, Bool.not_false, aconv, IntWalk.i64_in, decide_eq_true, decide_eq_false, abin_quo (P := prog), abin_rem (P := prog), IntWalk.i64_quo, IntWalk.rem_in, IntWalk.u8_in]
    exact fin (ys := [239, 191, 189]) (by rw [hx]; decide) rfl
  | true =>
    have hx : fixR r = r := by simp [fixR, hv]
    rw [hx] at hf fin
    obtain ⟨hf0, hf1⟩ := hf
    rcases (show r < 128 ∨ (128 ≤ r ∧ r < 2048) ∨ (2048 ≤ r ∧ r < 65536) ∨ 65536 ≤ r by omega) with hc | hc | hc | hc
    · simp (disch := omega) only [wk, wt, wl, ↓reduceIte, Nat.reduceEqDiff, Nat.reduceAdd, Nat.zero_add, not_false_eq_true, not_true_eq_false, Bool.not_true, aconv, IntWalk.i64_in, decide_eq_true, decide_eq_false, abin_quo (P := prog), abin_rem (P := prog), IntWalk.i64_quo, IntWalk.rem_in, IntWalk.u8_in]
      exact fin (ys := [r]) (by unfold encV; rw [if_pos hc]) rfl
    · simp (disch := omega) only [wk, wt, wl, ↓reduceIte, Nat.reduceEqDiff, Nat.reduceAdd, Nat.zero_add, not_false_eq_true, not_true_eq_false, Bool.not_true, aconv, IntWalk.i64_in, decide_eq_true, decide_eq_false, abin_quo (P := prog), abin_rem (P := prog), IntWalk.i64_quo, IntWalk.rem_in, IntWalk.u8_in]
      exact fin (ys := [192 + r / 64, 128 + r % 64]) (by unfold encV; rw [if_neg (by omega), if_pos hc.2]) rfl
    · simp (disch := omega) only [wk, wt, wl, ↓reduceIte, Nat.reduceEqDiff, Nat.reduceAdd, Nat.zero_add, not_false_eq_true, not_true_eq_false, Bool.not_true, aconv, IntWalk.i64_in, decide_eq_true, decide_eq_false, abin_quo (P := prog), abin_rem (P := prog), IntWalk.i64_quo, IntWalk.rem_in, IntWalk.u8_in]
      exact fin (ys := [224 + r / 4096, 128 + r / 64 % 64, 128 + r % 64]) (by unfold encV; rw [if_neg (by omega), if_neg (by omega), if_pos hc.2]) rfl
    · simp (disch := omega) only [wk, wt, wl, ↓reduceIte, Nat.reduceEqDiff, Nat.reduceAdd, Nat.zero_add, not_false_eq_true, not_true_eq_false, Bool.not_true, aconv, IntWalk.i64_in, decide_eq_true, decide_eq_false, abin_quo (P := prog), abin_rem (P := prog), IntWalk.i64_quo, IntWalk.rem_in, IntWalk.u8_in]
      exact fin (ys := [240 + r / 262144, 128 + r / 4096 % 64, 128 + r / 64 % 64, 128 + r % 64]) (by unfold encV; rw [if_neg (by omega), if_neg (by omega), if_neg (by omega)]) rfl
end Go.Proofs.YtiebaefhlacekaaGreatDoor.Am
end
section
/- The bytes of runes, put one behind another: contracts of utf.put, utf.Encode and of the document's Encode, by walks. -/
set_option linter.unusedSimpArgs false
set_option linter.unusedVariables false
set_option maxRecDepth 20000
set_option maxHeartbeats 4000000
namespace Go.Proofs.YtiebaefhlacekaaGreatDoor.Am
open Go Go.RowKit Go.Proofs.Tryz
theorem bI_append {a b : List Int} : bI (a ++ b) = bI a ++ bI b := by simp [bI]
theorem bI_len {a : List Int} : (bI a).length = a.length := by simp [bI]
theorem put_ok {v : Value} {b : List Int} {r : Int} {h : Heap} {B : Nat} (hB : B ≤ h.size) (O : Own prog B h 1 v b.length (bI b)) (h0 : isR r) (hl : b.length ≤ 1000000000) :
    ACalls prog 51 #[v, .int .i32 r] h (fun v' h' => Own prog B h' 1 v' (b ++ encR r).length (bI (b ++ encR r)) ∧ Ch (fun y => blkOf v = some y ∧ B ≤ y) h h' ∧ Reads h h' ∧ ∀ y, blkOf v' = some y → h.size ≤ y) := by
  refine acalls_of_W' func51 rfl (by kernel_rfl) (by kernel_rfl) (by simp [ntmps51]) ?_
  intro H
  simp only [wk, wt, wl, ↓reduceIte, Nat.reduceEqDiff, Nat.reduceAdd, Nat.zero_add, not_false_eq_true, not_true_eq_false]
  refine (len_ok h0).use_pure ?_
  simp only [wk, wt, wl, ↓reduceIte, Nat.reduceEqDiff, Nat.reduceAdd, Nat.zero_add, not_false_eq_true, not_true_eq_false]
  refine (valid_ok h0).use_pure ?_
  cases hv : validB r with
  | false =>
    have hx : fixR r = 65533 := by simp [fixR, hv]
    have hf0 : (0 : Int) ≤ 65533 := by decide
    have hc2 : encV 65533 = [224 + 65533 / 4096] ++ tailB 65533 2 := by decide
    simp only [wk, wt, wl, ↓reduceIte, Nat.reduceEqDiff, Nat.reduceAdd, Nat.zero_add, not_false_eq_true, not_true_eq_false, Bool.not_false]
    have hn : (lenZ r : Int) = 3 := by
      have : lenZ r = (encV 65533).length := by rw [lenZ, encR, hx]
      rw [this, hc2]; simp [tailB]
    have d31 : decide ((3 : Int) = 1) = false := by decide
    obtain ⟨v1, h1, e1, O1, C1, R1, ev1, _⟩ := O.append1 (P := prog) H hB underlying32 elem5 fits5 (by decide) (by decide) (xs := [.int .u8 (239)]) rfl (by omega)
    simp (disch := omega) only [wk, wt, wl, ↓reduceIte, Nat.reduceEqDiff, Nat.reduceAdd, Nat.zero_add, not_false_eq_true, not_true_eq_false, hn, d31, Int.reduceSub, Int.reduceMul, Int.reduceAdd, Int.reduceDiv, shl_lead, shr12 (P := prog) (x := 65533) (by decide), aconv, IntWalk.u8_in, u8_or224, IntWalk.i64_in]
    rw [e1]; clear e1
    simp (disch := omega) only [wk, wt, wl, ↓reduceIte, Nat.reduceEqDiff, Nat.reduceAdd, Nat.zero_add, not_false_eq_true, not_true_eq_false, hn, Int.reduceSub, IntWalk.i64_in]
    refine W_loop (fun tm h' => ∃ (j : Nat) (v1 : Value) (cur : List Int), tm 0 = v1 ∧ tm 1 = .int .i32 (65533) ∧ tm 7 = .int .i64 ((j : Int) - 1) ∧ j ≤ 3 ∧ cur.length + j ≤ b.length + 4 ∧ Own prog B h' 1 v1 cur.length (bI cur) ∧ Ch (fun y => blkOf v = some y ∧ B ≤ y) h h' ∧ Reads h h' ∧ (∀ y, blkOf v1 = some y → h.size ≤ y) ∧ cur ++ tailB (65533) j = b ++ encV (65533))
      (fun tm _ => (intOf (tm 7) + 1).toNat) ⟨2, v1, b ++ [239], (by first | rfl | (simp only [wk, wt, wl, ↓reduceIte, Nat.reduceEqDiff, Nat.reduceAdd, Nat.zero_add, not_false_eq_true, not_true_eq_false]; done) | (simp only [wk, wt, wl, ↓reduceIte, Nat.reduceEqDiff, Nat.reduceAdd, Nat.zero_add, not_false_eq_true, not_true_eq_false]; rfl)), (by first | rfl | (simp only [wk, wt, wl, ↓reduceIte, Nat.reduceEqDiff, Nat.reduceAdd, Nat.zero_add, not_false_eq_true, not_true_eq_false]; done) | (simp only [wk, wt, wl, ↓reduceIte, Nat.reduceEqDiff, Nat.reduceAdd, Nat.zero_add, not_false_eq_true, not_true_eq_false]; rfl)), (by first | rfl | (simp only [wk, wt, wl, ↓reduceIte, Nat.reduceEqDiff, Nat.reduceAdd, Nat.zero_add, not_false_eq_true, not_true_eq_false]; done) | (simp only [wk, wt, wl, ↓reduceIte, Nat.reduceEqDiff, Nat.reduceAdd, Nat.zero_add, not_false_eq_true, not_true_eq_false]; rfl)), by omega, by simp only [List.length_append, List.length_singleton]; omega, by simpa [bI] using O1, C1, R1, fun y hy => by rw [ev1] at hy; simp only [blkOf, Option.some.injEq] at hy; omega, by rw [hc2]; simp⟩ ?_
    clear O1 C1 R1 ev1
    rintro tm h' ⟨j, v1, cur, t0, t1, t7, hj, hcl, O1, C, R1, hb1, hcur⟩
    simp only [wk, wt, wl, ↓reduceIte, Nat.reduceEqDiff, Nat.reduceAdd, Nat.zero_add, not_false_eq_true, not_true_eq_false, t0, t1, t7]
    refine condK_dec (fun hd => ?_) (fun hd => ?_)
    · rcases (show j = 1 ∨ j = 2 ∨ j = 3 by omega) with rfl | rfl | rfl
      · replace t7 : tm 7 = .int .i64 0 := by rw [t7]; rfl
        have K0 := Ch.wf C
        obtain ⟨v2, h2, e2, O2, C2, R2, ev2, _⟩ := O1.append1 (P := prog) K0 (by have := Ch.le C; omega) underlying32 elem5 fits5 (by decide) (by decide) (xs := [.int .u8 (128 + (65533) % 256 % 64)]) rfl (by omega)
        simp (disch := omega) only [wk, wt, wl, ↓reduceIte, Nat.reduceEqDiff, Nat.reduceAdd, Nat.zero_add, not_false_eq_true, not_true_eq_false, t0, t1, t7, Int.reduceMul, shr0 (P := prog) (x := 65533) hf0, aconv, IntKind.wrap_u8, u8_and63, u8_or128, IntWalk.i64_in, decide_true]
        rw [e2]; clear e2
        simp (disch := omega) only [wk, wt, wl, ↓reduceIte, Nat.reduceEqDiff, Nat.reduceAdd, Nat.zero_add, not_false_eq_true, not_true_eq_false, t0, t1, t7, IntWalk.i64_in, intOf_int]
        refine ⟨⟨0, v2, cur ++ [128 + (65533) % 256 % 64], rfl, rfl, by omega, by simp only [List.length_append, List.length_singleton]; omega, ?_, C.then C2 (fun y hy => .inl (hb1 y hy.1)), R1.trans R2, fun y hy => ?_, ?_⟩, by omega⟩
        · simpa [bI] using O2
        · rw [ev2] at hy; simp only [blkOf, Option.some.injEq] at hy; have := Ch.le C; omega
        · rw [← hcur]; simp only [tailB, List.append_assoc, List.cons_append, List.nil_append]; first | (congr 2; done) | (congr 2; simp only [Int.reducePow] <;> omega)
      · replace t7 : tm 7 = .int .i64 1 := by rw [t7]; rfl
        have K0 := Ch.wf C
        obtain ⟨v2, h2, e2, O2, C2, R2, ev2, _⟩ := O1.append1 (P := prog) K0 (by have := Ch.le C; omega) underlying32 elem5 fits5 (by decide) (by decide) (xs := [.int .u8 (128 + (((65533) / 64)) % 256 % 64)]) rfl (by omega)
        simp (disch := omega) only [wk, wt, wl, ↓reduceIte, Nat.reduceEqDiff, Nat.reduceAdd, Nat.zero_add, not_false_eq_true, not_true_eq_false, t0, t1, t7, Int.reduceMul, shr6 (P := prog) (x := 65533) hf0, aconv, IntKind.wrap_u8, u8_and63, u8_or128, IntWalk.i64_in, decide_true]
        rw [e2]; clear e2
        simp (disch := omega) only [wk, wt, wl, ↓reduceIte, Nat.reduceEqDiff, Nat.reduceAdd, Nat.zero_add, not_false_eq_true, not_true_eq_false, t0, t1, t7, IntWalk.i64_in, intOf_int]
        refine ⟨⟨1, v2, cur ++ [128 + (((65533) / 64)) % 256 % 64], rfl, rfl, by omega, by simp only [List.length_append, List.length_singleton]; omega, ?_, C.then C2 (fun y hy => .inl (hb1 y hy.1)), R1.trans R2, fun y hy => ?_, ?_⟩, by omega⟩
        · simpa [bI] using O2
        · rw [ev2] at hy; simp only [blkOf, Option.some.injEq] at hy; have := Ch.le C; omega
        · rw [← hcur]; simp only [tailB, List.append_assoc, List.cons_append, List.nil_append]; first | (congr 2; done) | (congr 2; simp only [Int.reducePow] <;> omega)
      · replace t7 : tm 7 = .int .i64 2 := by rw [t7]; rfl
        have K0 := Ch.wf C
        obtain ⟨v2, h2, e2, O2, C2, R2, ev2, _⟩ := O1.append1 (P := prog) K0 (by have := Ch.le C; omega) underlying32 elem5 fits5 (by decide) (by decide) (xs := [.int .u8 (128 + (((65533) / 4096)) % 256 % 64)]) rfl (by omega)
        simp (disch := omega) only [wk, wt, wl, ↓reduceIte, Nat.reduceEqDiff, Nat.reduceAdd, Nat.zero_add, not_false_eq_true, not_true_eq_false, t0, t1, t7, Int.reduceMul, shr12 (P := prog) (x := 65533) hf0, aconv, IntKind.wrap_u8, u8_and63, u8_or128, IntWalk.i64_in, decide_true]
        rw [e2]; clear e2
        simp (disch := omega) only [wk, wt, wl, ↓reduceIte, Nat.reduceEqDiff, Nat.reduceAdd, Nat.zero_add, not_false_eq_true, not_true_eq_false, t0, t1, t7, IntWalk.i64_in, intOf_int]
        refine ⟨⟨2, v2, cur ++ [128 + (((65533) / 4096)) % 256 % 64], rfl, rfl, by omega, by simp only [List.length_append, List.length_singleton]; omega, ?_, C.then C2 (fun y hy => .inl (hb1 y hy.1)), R1.trans R2, fun y hy => ?_, ?_⟩, by omega⟩
        · simpa [bI] using O2
        · rw [ev2] at hy; simp only [blkOf, Option.some.injEq] at hy; have := Ch.le C; omega
        · rw [← hcur]; simp only [tailB, List.append_assoc, List.cons_append, List.nil_append]; first | (congr 2; done) | (congr 2; simp only [Int.reducePow] <;> omega)
    · have hj0 : j = 0 := by omega
      subst hj0
      simp only [tailB, List.append_nil] at hcur
      simp only [wk, wt, wl, ↓reduceIte, Nat.reduceEqDiff, Nat.reduceAdd, Nat.zero_add, not_false_eq_true, not_true_eq_false, t0]
      rw [encR, hx, ← hcur]
      exact ⟨O1, C, R1, hb1⟩
  | true =>
    have hx : fixR r = r := by simp [fixR, hv]
    have hf := fixR_range (r := r)
    rw [hx] at hf
    obtain ⟨hf0, hf1⟩ := hf
    simp only [wk, wt, wl, ↓reduceIte, Nat.reduceEqDiff, Nat.reduceAdd, Nat.zero_add, not_false_eq_true, not_true_eq_false, Bool.not_true]
    rcases encV_tail hf0 hf1 with ⟨hc1, hc2⟩ | ⟨hc0, hc1, hc2⟩ | ⟨hc0, hc1, hc2⟩ | ⟨hc0, hc2⟩
    · have hn : (lenZ r : Int) = 1 := by
        have : lenZ r = (encV r).length := by rw [lenZ, encR, hx]
        rw [this, hc2]; rfl
      obtain ⟨v1, h1, e1, O1, C1, R1, ev1, _⟩ := O.append1 (P := prog) H hB underlying32 elem5 fits5 (by decide) (by decide) (xs := [.int .u8 r]) rfl (by omega)
      have d11 : decide ((1 : Int) = 1) = true := by decide
      simp (disch := omega) only [wk, wt, wl, ↓reduceIte, Nat.reduceEqDiff, Nat.reduceAdd, Nat.zero_add, not_false_eq_true, not_true_eq_false, hn, d11, aconv, IntWalk.u8_in]
      rw [e1]; clear e1
      simp only [wk, wt, wl, ↓reduceIte, Nat.reduceEqDiff, Nat.reduceAdd, Nat.zero_add, not_false_eq_true, not_true_eq_false]
      rw [encR, hx, hc2]
      exact ⟨by simpa [bI] using O1, C1, R1, fun y hy => by rw [ev1] at hy; simp only [blkOf, Option.some.injEq] at hy; omega⟩
    · skip
      have hn : (lenZ r : Int) = 2 := by
        have : lenZ r = (encV r).length := by rw [lenZ, encR, hx]
        rw [this, hc2]; simp [tailB]
      have d31 : decide ((2 : Int) = 1) = false := by decide
      obtain ⟨v1, h1, e1, O1, C1, R1, ev1, _⟩ := O.append1 (P := prog) H hB underlying32 elem5 fits5 (by decide) (by decide) (xs := [.int .u8 (192 + r / 64)]) rfl (by omega)
      simp (disch := omega) only [wk, wt, wl, ↓reduceIte, Nat.reduceEqDiff, Nat.reduceAdd, Nat.zero_add, not_false_eq_true, not_true_eq_false, hn, d31, Int.reduceSub, Int.reduceMul, Int.reduceAdd, Int.reduceDiv, shl_lead, shr6 (P := prog) (x := r) hf0, aconv, IntWalk.u8_in, u8_or192, IntWalk.i64_in]
      rw [e1]; clear e1
      simp (disch := omega) only [wk, wt, wl, ↓reduceIte, Nat.reduceEqDiff, Nat.reduceAdd, Nat.zero_add, not_false_eq_true, not_true_eq_false, hn, Int.reduceSub, IntWalk.i64_in]
      refine W_loop (fun tm h' => ∃ (j : Nat) (v1 : Value) (cur : List Int), tm 0 = v1 ∧ tm 1 = .int .i32 (r) ∧ tm 7 = .int .i64 ((j : Int) - 1) ∧ j ≤ 3 ∧ cur.length + j ≤ b.length + 4 ∧ Own prog B h' 1 v1 cur.length (bI cur) ∧ Ch (fun y => blkOf v = some y ∧ B ≤ y) h h' ∧ Reads h h' ∧ (∀ y, blkOf v1 = some y → h.size ≤ y) ∧ cur ++ tailB (r) j = b ++ encV (r))
        (fun tm _ => (intOf (tm 7) + 1).toNat) ⟨1, v1, b ++ [192 + r / 64], (by first | rfl | (simp only [wk, wt, wl, ↓reduceIte, Nat.reduceEqDiff, Nat.reduceAdd, Nat.zero_add, not_false_eq_true, not_true_eq_false]; done) | (simp only [wk, wt, wl, ↓reduceIte, Nat.reduceEqDiff, Nat.reduceAdd, Nat.zero_add, not_false_eq_true, not_true_eq_false]; rfl)), (by first | rfl | (simp only [wk, wt, wl, ↓reduceIte, Nat.reduceEqDiff, Nat.reduceAdd, Nat.zero_add, not_false_eq_true, not_true_eq_false]; done) | (simp only [wk, wt, wl, ↓reduceIte, Nat.reduceEqDiff, Nat.reduceAdd, Nat.zero_add, not_false_eq_true, not_true_eq_false]; rfl)), (by first | rfl | (simp only [wk, wt, wl, ↓reduceIte, Nat.reduceEqDiff, Nat.reduceAdd, Nat.zero_add, not_false_eq_true, not_true_eq_false]; done) | (simp only [wk, wt, wl, ↓reduceIte, Nat.reduceEqDiff, Nat.reduceAdd, Nat.zero_add, not_false_eq_true, not_true_eq_false]; rfl)), by omega, by simp only [List.length_append, List.length_singleton]; omega, by simpa [bI] using O1, C1, R1, fun y hy => by rw [ev1] at hy; simp only [blkOf, Option.some.injEq] at hy; omega, by rw [hc2]; simp⟩ ?_
      clear O1 C1 R1 ev1
      rintro tm h' ⟨j, v1, cur, t0, t1, t7, hj, hcl, O1, C, R1, hb1, hcur⟩
      simp only [wk, wt, wl, ↓reduceIte, Nat.reduceEqDiff, Nat.reduceAdd, Nat.zero_add, not_false_eq_true, not_true_eq_false, t0, t1, t7]
      refine condK_dec (fun hd => ?_) (fun hd => ?_)
      · rcases (show j = 1 ∨ j = 2 ∨ j = 3 by omega) with rfl | rfl | rfl
        · replace t7 : tm 7 = .int .i64 0 := by rw [t7]; rfl
          have K0 := Ch.wf C
          obtain ⟨v2, h2, e2, O2, C2, R2, ev2, _⟩ := O1.append1 (P := prog) K0 (by have := Ch.le C; omega) underlying32 elem5 fits5 (by decide) (by decide) (xs := [.int .u8 (128 + (r) % 256 % 64)]) rfl (by omega)
          simp (disch := omega) only [wk, wt, wl, ↓reduceIte, Nat.reduceEqDiff, Nat.reduceAdd, Nat.zero_add, not_false_eq_true, not_true_eq_false, t0, t1, t7, Int.reduceMul, shr0 (P := prog) (x := r) hf0, aconv, IntKind.wrap_u8, u8_and63, u8_or128, IntWalk.i64_in, decide_true]
          rw [e2]; clear e2
          simp (disch := omega) only [wk, wt, wl, ↓reduceIte, Nat.reduceEqDiff, Nat.reduceAdd, Nat.zero_add, not_false_eq_true, not_true_eq_false, t0, t1, t7, IntWalk.i64_in, intOf_int]
          refine ⟨⟨0, v2, cur ++ [128 + (r) % 256 % 64], rfl, rfl, by omega, by simp only [List.length_append, List.length_singleton]; omega, ?_, C.then C2 (fun y hy => .inl (hb1 y hy.1)), R1.trans R2, fun y hy => ?_, ?_⟩, by omega⟩
          · simpa [bI] using O2
          · rw [ev2] at hy; simp only [blkOf, Option.some.injEq] at hy; have := Ch.le C; omega
          · rw [← hcur]; simp only [tailB, List.append_assoc, List.cons_append, List.nil_append]; first | (congr 2; done) | (congr 2; simp only [Int.reducePow] <;> omega)
        · replace t7 : tm 7 = .int .i64 1 := by rw [t7]; rfl
          have K0 := Ch.wf C
          obtain ⟨v2, h2, e2, O2, C2, R2, ev2, _⟩ := O1.append1 (P := prog) K0 (by have := Ch.le C; omega) underlying32 elem5 fits5 (by decide) (by decide) (xs := [.int .u8 (128 + (((r) / 64)) % 256 % 64)]) rfl (by omega)
          simp (disch := omega) only [wk, wt, wl, ↓reduceIte, Nat.reduceEqDiff, Nat.reduceAdd, Nat.zero_add, not_false_eq_true, not_true_eq_false, t0, t1, t7, Int.reduceMul, shr6 (P := prog) (x := r) hf0, aconv, IntKind.wrap_u8, u8_and63, u8_or128, IntWalk.i64_in, decide_true]
          rw [e2]; clear e2
          simp (disch := omega) only [wk, wt, wl, ↓reduceIte, Nat.reduceEqDiff, Nat.reduceAdd, Nat.zero_add, not_false_eq_true, not_true_eq_false, t0, t1, t7, IntWalk.i64_in, intOf_int]
          refine ⟨⟨1, v2, cur ++ [128 + (((r) / 64)) % 256 % 64], rfl, rfl, by omega, by simp only [List.length_append, List.length_singleton]; omega, ?_, C.then C2 (fun y hy => .inl (hb1 y hy.1)), R1.trans R2, fun y hy => ?_, ?_⟩, by omega⟩
          · simpa [bI] using O2
          · rw [ev2] at hy; simp only [blkOf, Option.some.injEq] at hy; have := Ch.le C; omega
          · rw [← hcur]; simp only [tailB, List.append_assoc, List.cons_append, List.nil_append]; first | (congr 2; done) | (congr 2; simp only [Int.reducePow] <;> omega)
        · replace t7 : tm 7 = .int .i64 2 := by rw [t7]; rfl
          have K0 := Ch.wf C
          obtain ⟨v2, h2, e2, O2, C2, R2, ev2, _⟩ := O1.append1 (P := prog) K0 (by have := Ch.le C; omega) underlying32 elem5 fits5 (by decide) (by decide) (xs := [.int .u8 (128 + (((r) / 4096)) % 256 % 64)]) rfl (by omega)
          simp (disch := omega) only [wk, wt, wl, ↓reduceIte, Nat.reduceEqDiff, Nat.reduceAdd, Nat.zero_add, not_false_eq_true, not_true_eq_false, t0, t1, t7, Int.reduceMul, shr12 (P := prog) (x := r) hf0, aconv, IntKind.wrap_u8, u8_and63, u8_or128, IntWalk.i64_in, decide_true]
          rw [e2]; clear e2
          simp (disch := omega) only [wk, wt, wl, ↓reduceIte, Nat.reduceEqDiff, Nat.reduceAdd, Nat.zero_add, not_false_eq_true, not_true_eq_false, t0, t1, t7, IntWalk.i64_in, intOf_int]
          refine ⟨⟨2, v2, cur ++ [128 + (((r) / 4096)) % 256 % 64], rfl, rfl, by omega, by simp only [List.length_append, List.length_singleton]; omega, ?_, C.then C2 (fun y hy => .inl (hb1 y hy.1)), R1.trans R2, fun y hy => ?_, ?_⟩, by omega⟩
          · simpa [bI] using O2
          · rw [ev2] at hy; simp only [blkOf, Option.some.injEq] at hy; have := Ch.le C; omega
          · rw [← hcur]; simp only [tailB, List.append_assoc, List.cons_append, List.nil_append]; first | (congr 2; done) | (congr 2; simp only [Int.reducePow] <;> omega)
      · have hj0 : j = 0 := by omega
        subst hj0
        simp only [tailB, List.append_nil] at hcur
        simp only [wk, wt, wl, ↓reduceIte, Nat.reduceEqDiff, Nat.reduceAdd, Nat.zero_add, not_false_eq_true, not_true_eq_false, t0]
        rw [encR, hx, ← hcur]
        exact ⟨O1, C, R1, hb1⟩
    · skip
      have hn : (lenZ r : Int) = 3 := by
        have : lenZ r = (encV r).length := by rw [lenZ, encR, hx]
        rw [this, hc2]; simp [tailB]
      have d31 : decide ((3 : Int) = 1) = false := by decide
      obtain ⟨v1, h1, e1, O1, C1, R1, ev1, _⟩ := O.append1 (P := prog) H hB underlying32 elem5 fits5 (by decide) (by decide) (xs := [.int .u8 (224 + r / 4096)]) rfl (by omega)
      simp (disch := omega) only [wk, wt, wl, ↓reduceIte, Nat.reduceEqDiff, Nat.reduceAdd, Nat.zero_add, not_false_eq_true, not_true_eq_false, hn, d31, Int.reduceSub, Int.reduceMul, Int.reduceAdd, Int.reduceDiv, shl_lead, shr12 (P := prog) (x := r) hf0, aconv, IntWalk.u8_in, u8_or224, IntWalk.i64_in]
      rw [e1]; clear e1
      simp (disch := omega) only [wk, wt, wl, ↓reduceIte, Nat.reduceEqDiff, Nat.reduceAdd, Nat.zero_add, not_false_eq_true, not_true_eq_false, hn, Int.reduceSub, IntWalk.i64_in]
      refine W_loop (fun tm h' => ∃ (j : Nat) (v1 : Value) (cur : List Int), tm 0 = v1 ∧ tm 1 = .int .i32 (r) ∧ tm 7 = .int .i64 ((j : Int) - 1) ∧ j ≤ 3 ∧ cur.length + j ≤ b.length + 4 ∧ Own prog B h' 1 v1 cur.length (bI cur) ∧ Ch (fun y => blkOf v = some y ∧ B ≤ y) h h' ∧ Reads h h' ∧ (∀ y, blkOf v1 = some y → h.size ≤ y) ∧ cur ++ tailB (r) j = b ++ encV (r))
        (fun tm _ => (intOf (tm 7) + 1).toNat) ⟨2, v1, b ++ [224 + r / 4096], (by first | rfl | (simp only [wk, wt, wl, ↓reduceIte, Nat.reduceEqDiff, Nat.reduceAdd, Nat.zero_add, not_false_eq_true, not_true_eq_false]; done) | (simp only [wk, wt, wl, ↓reduceIte, Nat.reduceEqDiff, Nat.reduceAdd, Nat.zero_add, not_false_eq_true, not_true_eq_false]; rfl)), (by first | rfl | (simp only [wk, wt, wl, ↓reduceIte, Nat.reduceEqDiff, Nat.reduceAdd, Nat.zero_add, not_false_eq_true, not_true_eq_false]; done) | (simp only [wk, wt, wl, ↓reduceIte, Nat.reduceEqDiff, Nat.reduceAdd, Nat.zero_add, not_false_eq_true, not_true_eq_false]; rfl)), (by first | rfl | (simp only [wk, wt, wl, ↓reduceIte, Nat.reduceEqDiff, Nat.reduceAdd, Nat.zero_add, not_false_eq_true, not_true_eq_false]; done) | (simp only [wk, wt, wl, ↓reduceIte, Nat.reduceEqDiff, Nat.reduceAdd, Nat.zero_add, not_false_eq_true, not_true_eq_false]; rfl)), by omega, by simp only [List.length_append, List.length_singleton]; omega, by simpa [bI] using O1, C1, R1, fun y hy => by rw [ev1] at hy; simp only [blkOf, Option.some.injEq] at hy; omega, by rw [hc2]; simp⟩ ?_
      clear O1 C1 R1 ev1
      rintro tm h' ⟨j, v1, cur, t0, t1, t7, hj, hcl, O1, C, R1, hb1, hcur⟩
      simp only [wk, wt, wl, ↓reduceIte, Nat.reduceEqDiff, Nat.reduceAdd, Nat.zero_add, not_false_eq_true, not_true_eq_false, t0, t1, t7]
      refine condK_dec (fun hd => ?_) (fun hd => ?_)
      · rcases (show j = 1 ∨ j = 2 ∨ j = 3 by omega) with rfl | rfl | rfl
        · replace t7 : tm 7 = .int .i64 0 := by rw [t7]; rfl
          have K0 := Ch.wf C
          obtain ⟨v2, h2, e2, O2, C2, R2, ev2, _⟩ := O1.append1 (P := prog) K0 (by have := Ch.le C; omega) underlying32 elem5 fits5 (by decide) (by decide) (xs := [.int .u8 (128 + (r) % 256 % 64)]) rfl (by omega)
          simp (disch := omega) only [wk, wt, wl, ↓reduceIte, Nat.reduceEqDiff, Nat.reduceAdd, Nat.zero_add, not_false_eq_true, not_true_eq_false, t0, t1, t7, Int.reduceMul, shr0 (P := prog) (x := r) hf0, aconv, IntKind.wrap_u8, u8_and63, u8_or128, IntWalk.i64_in, decide_true]
          rw [e2]; clear e2
          simp (disch := omega) only [wk, wt, wl, ↓reduceIte, Nat.reduceEqDiff, Nat.reduceAdd, Nat.zero_add, not_false_eq_true, not_true_eq_false, t0, t1, t7, IntWalk.i64_in, intOf_int]
          refine ⟨⟨0, v2, cur ++ [128 + (r) % 256 % 64], rfl, rfl, by omega, by simp only [List.length_append, List.length_singleton]; omega, ?_, C.then C2 (fun y hy => .inl (hb1 y hy.1)), R1.trans R2, fun y hy => ?_, ?_⟩, by omega⟩
          · simpa [bI] using O2
          · rw [ev2] at hy; simp only [blkOf, Option.some.injEq] at hy; have := Ch.le C; omega
          · rw [← hcur]; simp only [tailB, List.append_assoc, List.cons_append, List.nil_append]; first | (congr 2; done) | (congr 2; simp only [Int.reducePow] <;> omega)
        · replace t7 : tm 7 = .int .i64 1 := by rw [t7]; rfl
          have K0 := Ch.wf C
          obtain ⟨v2, h2, e2, O2, C2, R2, ev2, _⟩ := O1.append1 (P := prog) K0 (by have := Ch.le C; omega) underlying32 elem5 fits5 (by decide) (by decide) (xs := [.int .u8 (128 + (((r) / 64)) % 256 % 64)]) rfl (by omega)
          simp (disch := omega) only [wk, wt, wl, ↓reduceIte, Nat.reduceEqDiff, Nat.reduceAdd, Nat.zero_add, not_false_eq_true, not_true_eq_false, t0, t1, t7, Int.reduceMul, shr6 (P := prog) (x := r) hf0, aconv, IntKind.wrap_u8, u8_and63, u8_or128, IntWalk.i64_in, decide_true]
          rw [e2]; clear e2
          simp (disch := omega) only [wk, wt, wl, ↓reduceIte, Nat.reduceEqDiff, Nat.reduceAdd, Nat.zero_add, not_false_eq_true, not_true_eq_false, t0, t1, t7, IntWalk.i64_in, intOf_int]
          refine ⟨⟨1, v2, cur ++ [128 + (((r) / 64)) % 256 % 64], rfl, rfl, by omega, by simp only [List.length_append, List.length_singleton]; omega, ?_, C.then C2 (fun y hy => .inl (hb1 y hy.1)), R1.trans R2, fun y hy => ?_, ?_⟩, by omega⟩
          · simpa [bI] using O2
          · rw [ev2] at hy; simp only [blkOf, Option.some.injEq] at hy; have := Ch.le C; omega
          · rw [← hcur]; simp only [tailB, List.append_assoc, List.cons_append, List.nil_append]; first | (congr 2; done) | (congr 2; simp only [Int.reducePow] <;> omega)
        · replace t7 : tm 7 = .int .i64 2 := by rw [t7]; rfl
          have K0 := Ch.wf C
          obtain ⟨v2, h2, e2, O2, C2, R2, ev2, _⟩ := O1.append1 (P := prog) K0 (by have := Ch.le C; omega) underlying32 elem5 fits5 (by decide) (by decide) (xs := [.int .u8 (128 + (((r) / 4096)) % 256 % 64)]) rfl (by omega)
          simp (disch := omega) only [wk, wt, wl, ↓reduceIte, Nat.reduceEqDiff, Nat.reduceAdd, Nat.zero_add, not_false_eq_true, not_true_eq_false, t0, t1, t7, Int.reduceMul, shr12 (P := prog) (x := r) hf0, aconv, IntKind.wrap_u8, u8_and63, u8_or128, IntWalk.i64_in, decide_true]
          rw [e2]; clear e2
          simp (disch := omega) only [wk, wt, wl, ↓reduceIte, Nat.reduceEqDiff, Nat.reduceAdd, Nat.zero_add, not_false_eq_true, not_true_eq_false, t0, t1, t7, IntWalk.i64_in, intOf_int]
          refine ⟨⟨2, v2, cur ++ [128 + (((r) / 4096)) % 256 % 64], rfl, rfl, by omega, by simp only [List.length_append, List.length_singleton]; omega, ?_, C.then C2 (fun y hy => .inl (hb1 y hy.1)), R1.trans R2, fun y hy => ?_, ?_⟩, by omega⟩
          · simpa [bI] using O2
          · rw [ev2] at hy; simp only [blkOf, Option.some.injEq] at hy; have := Ch.le C; omega
          · rw [← hcur]; simp only [tailB, List.append_assoc, List.cons_append, List.nil_append]; first | (congr 2; done) | (congr 2; simp only [Int.reducePow] <;> omega)
      · have hj0 : j = 0 := by omega
        subst hj0
        simp only [tailB, List.append_nil] at hcur
        simp only [wk, wt, wl, ↓reduceIte, Nat.reduceEqDiff, Nat.reduceAdd, Nat.zero_add, not_false_eq_true, not_true_eq_false, t0]
        rw [encR, hx, ← hcur]
        exact ⟨O1, C, R1, hb1⟩
    · skip
      have hn : (lenZ r : Int) = 4 := by
        have : lenZ r = (encV r).length := by rw [lenZ, encR, hx]
        rw [this, hc2]; simp [tailB]
      have d31 : decide ((4 : Int) = 1) = false := by decide
      obtain ⟨v1, h1, e1, O1, C1, R1, ev1, _⟩ := O.append1 (P := prog) H hB underlying32 elem5 fits5 (by decide) (by decide) (xs := [.int .u8 (240 + r / 262144)]) rfl (by omega)
      simp (disch := omega) only [wk, wt, wl, ↓reduceIte, Nat.reduceEqDiff, Nat.reduceAdd, Nat.zero_add, not_false_eq_true, not_true_eq_false, hn, d31, Int.reduceSub, Int.reduceMul, Int.reduceAdd, Int.reduceDiv, shl_lead, shr18 (P := prog) (x := r) hf0, aconv, IntWalk.u8_in, u8_or240, IntWalk.i64_in]
      rw [e1]; clear e1
      simp (disch := omega) only [wk, wt, wl, ↓reduceIte, Nat.reduceEqDiff, Nat.reduceAdd, Nat.zero_add, not_false_eq_true, not_true_eq_false, hn, Int.reduceSub, IntWalk.i64_in]
      refine W_loop (fun tm h' => ∃ (j : Nat) (v1 : Value) (cur : List Int), tm 0 = v1 ∧ tm 1 = .int .i32 (r) ∧ tm 7 = .int .i64 ((j : Int) - 1) ∧ j ≤ 3 ∧ cur.length + j ≤ b.length + 4 ∧ Own prog B h' 1 v1 cur.length (bI cur) ∧ Ch (fun y => blkOf v = some y ∧ B ≤ y) h h' ∧ Reads h h' ∧ (∀ y, blkOf v1 = some y → h.size ≤ y) ∧ cur ++ tailB (r) j = b ++ encV (r))
        (fun tm _ => (intOf (tm 7) + 1).toNat) ⟨3, v1, b ++ [240 + r / 262144], (by first | rfl | (simp only [wk, wt, wl, ↓reduceIte, Nat.reduceEqDiff, Nat.reduceAdd, Nat.zero_add, not_false_eq_true, not_true_eq_false]; done) | (simp only [wk, wt, wl, ↓reduceIte, Nat.reduceEqDiff, Nat.reduceAdd, Nat.zero_add, not_false_eq_true, not_true_eq_false]; rfl)), (by first | rfl | (simp only [wk, wt, wl, ↓reduceIte, Nat.reduceEqDiff, Nat.reduceAdd, Nat.zero_add, not_false_eq_true, not_true_eq_false]; done) | (simp only [wk, wt, wl, ↓reduceIte, Nat.reduceEqDiff, Nat.reduceAdd, Nat.zero_add, not_false_eq_true, not_true_eq_false]; rfl)), (by first | rfl | (simp only [wk, wt, wl, ↓reduceIte, Nat.reduceEqDiff, Nat.reduceAdd, Nat.zero_add, not_false_eq_true, not_true_eq_false]; done) | (simp only [wk, wt, wl, ↓reduceIte, Nat.reduceEqDiff, Nat.reduceAdd, Nat.zero_add, not_false_eq_true, not_true_eq_false]; rfl)), by omega, by simp only [List.length_append, List.length_singleton]; omega, by simpa [bI] using O1, C1, R1, fun y hy => by rw [ev1] at hy; simp only [blkOf, Option.some.injEq] at hy; omega, by rw [hc2]; simp⟩ ?_
      clear O1 C1 R1 ev1
      rintro tm h' ⟨j, v1, cur, t0, t1, t7, hj, hcl, O1, C, R1, hb1, hcur⟩
      simp only [wk, wt, wl, ↓reduceIte, Nat.reduceEqDiff, Nat.reduceAdd, Nat.zero_add, not_false_eq_true, not_true_eq_false, t0, t1, t7]
      refine condK_dec (fun hd => ?_) (fun hd => ?_)
      · rcases (show j = 1 ∨ j = 2 ∨ j = 3 by omega) with rfl | rfl | rfl
        · replace t7 : tm 7 = .int .i64 0 := by rw [t7]; rfl
          have K0 := Ch.wf C
          obtain ⟨v2, h2, e2, O2, C2, R2, ev2, _⟩ := O1.append1 (P := prog) K0 (by have := Ch.le C; omega) underlying32 elem5 fits5 (by decide) (by decide) (xs := [.int .u8 (128 + (r) % 256 % 64)]) rfl (by omega)
          simp (disch := omega) only [wk, wt, wl, ↓reduceIte, Nat.reduceEqDiff, Nat.reduceAdd, Nat.zero_add, not_false_eq_true, not_true_eq_false, t0, t1, t7, Int.reduceMul, shr0 (P := prog) (x := r) hf0, aconv, IntKind.wrap_u8, u8_and63, u8_or128, IntWalk.i64_in, decide_true]
          rw [e2]; clear e2
          simp (disch := omega) only [wk, wt, wl, ↓reduceIte, Nat.reduceEqDiff, Nat.reduceAdd, Nat.zero_add, not_false_eq_true, not_true_eq_false, t0, t1, t7, IntWalk.i64_in, intOf_int]
          refine ⟨⟨0, v2, cur ++ [128 + (r) % 256 % 64], rfl, rfl, by omega, by simp only [List.length_append, List.length_singleton]; omega, ?_, C.then C2 (fun y hy => .inl (hb1 y hy.1)), R1.trans R2, fun y hy => ?_, ?_⟩, by omega⟩
          · simpa [bI] using O2
          · rw [ev2] at hy; simp only [blkOf, Option.some.injEq] at hy; have := Ch.le C; omega
          · rw [← hcur]; simp only [tailB, List.append_assoc, List.cons_append, List.nil_append]; first | (congr 2; done) | (congr 2; simp only [Int.reducePow] <;> omega)
        · replace t7 : tm 7 = .int .i64 1 := by rw [t7]; rfl
          have K0 := Ch.wf C
          obtain ⟨v2, h2, e2, O2, C2, R2, ev2, _⟩ := O1.append1 (P := prog) K0 (by have := Ch.le C; omega) underlying32 elem5 fits5 (by decide) (by decide) (xs := [.int .u8 (128 + (((r) / 64)) % 256 % 64)]) rfl (by omega)
          simp (disch := omega) only [wk, wt, wl, ↓reduceIte, Nat.reduceEqDiff, Nat.reduceAdd, Nat.zero_add, not_false_eq_true, not_true_eq_false, t0, t1, t7, Int.reduceMul, shr6 (P := prog) (x := r) hf0, aconv, IntKind.wrap_u8, u8_and63, u8_or128, IntWalk.i64_in, decide_true]
          rw [e2]; clear e2
          simp (disch := omega) only [wk, wt, wl, ↓reduceIte, Nat.reduceEqDiff, Nat.reduceAdd, Nat.zero_add, not_false_eq_true, not_true_eq_false, t0, t1, t7, IntWalk.i64_in, intOf_int]
          refine ⟨⟨1, v2, cur ++ [128 + (((r) / 64)) % 256 % 64], rfl, rfl, by omega, by simp only [List.length_append, List.length_singleton]; omega, ?_, C.then C2 (fun y hy => .inl (hb1 y hy.1)), R1.trans R2, fun y hy => ?_, ?_⟩, by omega⟩
          · simpa [bI] using O2
          · rw [ev2] at hy; simp only [blkOf, Option.some.injEq] at hy; have := Ch.le C; omega
          · rw [← hcur]; simp only [tailB, List.append_assoc, List.cons_append, List.nil_append]; first | (congr 2; done) | (congr 2; simp only [Int.reducePow] <;> omega)
        · replace t7 : tm 7 = .int .i64 2 := by rw [t7]; rfl
          have K0 := Ch.wf C
          obtain ⟨v2, h2, e2, O2, C2, R2, ev2, _⟩ := O1.append1 (P := prog) K0 (by have := Ch.le C; omega) underlying32 elem5 fits5 (by decide) (by decide) (xs := [.int .u8 (128 + (((r) / 4096)) % 256 % 64)]) rfl (by omega)
          simp (disch := omega) only [wk, wt, wl, ↓reduceIte, Nat.reduceEqDiff, Nat.reduceAdd, Nat.zero_add, not_false_eq_true, not_true_eq_false, t0, t1, t7, Int.reduceMul, shr12 (P := prog) (x := r) hf0, aconv, IntKind.wrap_u8, u8_and63, u8_or128, IntWalk.i64_in, decide_true]
          rw [e2]; clear e2
          simp (disch := omega) only [wk, wt, wl, ↓reduceIte, Nat.reduceEqDiff, Nat.reduceAdd, Nat.zero_add, not_false_eq_true, not_true_eq_false, t0, t1, t7, IntWalk.i64_in, intOf_int]
          refine ⟨⟨2, v2, cur ++ [128 + (((r) / 4096)) % 256 % 64], rfl, rfl, by omega, by simp only [List.length_append, List.length_singleton]; omega, ?_, C.then C2 (fun y hy => .inl (hb1 y hy.1)), R1.trans R2, fun y hy => ?_, ?_⟩, by omega⟩
          · simpa [bI] using O2
          · rw [ev2] at hy; simp only [blkOf, Option.some.injEq] at hy; have := Ch.le C; omega
          · rw [← hcur]; simp only [tailB, List.append_assoc, List.cons_append, List.nil_append]; first | (congr 2; done) | (congr 2; simp only [Int.reducePow] <;> omega)
      · have hj0 : j = 0 := by omega
        subst hj0
        simp only [tailB, List.append_nil] at hcur
        simp only [wk, wt, wl, ↓reduceIte, Nat.reduceEqDiff, Nat.reduceAdd, Nat.zero_add, not_false_eq_true, not_true_eq_false, t0]
        rw [encR, hx, ← hcur]
        exact ⟨O1, C, R1, hb1⟩
def encL (l : List Int) : List Int := l.flatMap encR
theorem take_next {l : List Int} {i : Nat} (hi : i < l.length) : l.take (i + 1) = l.take i ++ [l.getD i 0] := by
  rw [List.take_succ_eq_append_getElem hi, List.getD_eq_getElem?_getD, List.getElem?_eq_getElem hi]; rfl
theorem encL_next {l : List Int} {i : Nat} (hi : i < l.length) : encL (l.take (i + 1)) = encL (l.take i) ++ encR (l.getD i 0) := by
  rw [take_next hi]; simp [encL]
theorem encL_len (l : List Int) : (encL l).length ≤ 4 * l.length := by
  induction l with
  | nil => simp [encL]
  | cons r l ih =>
    have := lenZ_range (r := r)
    unfold lenZ at this
    simp only [encL, List.flatMap_cons, List.length_append, List.length_cons] at ih ⊢; omega
theorem encL_isB {l : List Int} : ∀ y, y ∈ encL l → isB y := fun y hy => by
  obtain ⟨r, _, h⟩ := List.mem_flatMap.1 hy
  exact encR_isB y h
theorem encode_ok {a : Value} {l : List Int} {h : Heap} (ha : RdI prog h .i32 a l) (hl : l.length ≤ 100000000) (hr : ∀ j, isR (l.getD j 0)) :
    ACalls prog 39 #[a] h (fun v h' => Own prog h.size h' 1 v (encL l).length (bI (encL l)) ∧ Keeps h h' ∧ ∀ y, blkOf v = some y → h.size ≤ y) := by
  refine acalls_of_W' func39 rfl (by kernel_rfl) (by kernel_rfl) (by simp [ntmps39]) ?_
  intro H
  simp only [wk, wt, wl, ↓reduceIte, Nat.reduceEqDiff, Nat.reduceAdd, Nat.zero_add, not_false_eq_true, not_true_eq_false, RdI.len ha underlying59]
  refine W_loop (fun tm h' => Keeps h h' ∧ tm 0 = a ∧ tm 6 = .int .i64 l.length ∧ ∃ (i : Nat) (v : Value), tm 7 = .int .i64 i ∧ tm 3 = v ∧ i ≤ l.length ∧ Own prog h.size h' 1 v (encL (l.take i)).length (bI (encL (l.take i))) ∧ ∀ y, blkOf v = some y → h.size ≤ y) (fun tm _ => (l.length - intOf (tm 7)).toNat)
    ⟨Keeps.refl H, (by first | rfl | (simp only [wk, wt, wl, ↓reduceIte, Nat.reduceEqDiff, Nat.reduceAdd, Nat.zero_add, not_false_eq_true, not_true_eq_false]; done) | (simp only [wk, wt, wl, ↓reduceIte, Nat.reduceEqDiff, Nat.reduceAdd, Nat.zero_add, not_false_eq_true, not_true_eq_false]; rfl)), (by first | rfl | (simp only [wk, wt, wl, ↓reduceIte, Nat.reduceEqDiff, Nat.reduceAdd, Nat.zero_add, not_false_eq_true, not_true_eq_false]; done) | (simp only [wk, wt, wl, ↓reduceIte, Nat.reduceEqDiff, Nat.reduceAdd, Nat.zero_add, not_false_eq_true, not_true_eq_false]; rfl)), 0, .slice none 0 0, (by first | rfl | (simp only [wk, wt, wl, ↓reduceIte, Nat.reduceEqDiff, Nat.reduceAdd, Nat.zero_add, not_false_eq_true, not_true_eq_false]; done) | (simp only [wk, wt, wl, ↓reduceIte, Nat.reduceEqDiff, Nat.reduceAdd, Nat.zero_add, not_false_eq_true, not_true_eq_false]; rfl)), (by first | rfl | (simp only [wk, wt, wl, ↓reduceIte, Nat.reduceEqDiff, Nat.reduceAdd, Nat.zero_add, not_false_eq_true, not_true_eq_false]; done) | (simp only [wk, wt, wl, ↓reduceIte, Nat.reduceEqDiff, Nat.reduceAdd, Nat.zero_add, not_false_eq_true, not_true_eq_false]; rfl)), by omega, by simpa [encL, bI] using Own.nil0, fun y hy => by cases hy⟩ ?_
  rintro tm h' ⟨K, t0, t6, i, v, t7, t3, hi, O, hb⟩
  simp only [wk, wt, wl, ↓reduceIte, Nat.reduceEqDiff, Nat.reduceAdd, Nat.zero_add, not_false_eq_true, not_true_eq_false, t0, t6, t7, t3]
  refine condK_dec (fun hd => ?_) (fun hd => ?_)
  · have hi1 : i < l.length := by omega
    have hlen := encL_len (l.take i)
    simp only [List.length_take] at hlen
    simp (disch := omega) only [wk, wt, wl, ↓reduceIte, Nat.reduceEqDiff, Nat.reduceAdd, Nat.zero_add, not_false_eq_true, not_true_eq_false, t0, t6, t7, t3, RdI.index (ha.keeps K) underlying59 asz21 (q := .i64) (i := (i : Int)), Int.toNat_natCast, RdI.at (ha.keeps K) (t := 21) underlying21 rfl hi1]
    refine (put_ok (Ch.le K) O (hr i) (by omega)).use ?_
    rintro v2 h2 ⟨O2, C2, R2, hb2⟩
    have K2 := K.step C2 fun b hb => hb.2
    simp (disch := omega) only [wk, wt, wl, ↓reduceIte, Nat.reduceEqDiff, Nat.reduceAdd, Nat.zero_add, not_false_eq_true, not_true_eq_false, t0, t6, t7, IntWalk.i64_in, intOf_int]
    exact ⟨⟨K2, i + 1, v2, by simp, rfl, by omega, by rw [encL_next hi1]; exact O2, fun y hy => by have := hb2 y hy; have := Ch.le K; omega⟩, by omega⟩
  · simp only [wk, wt, wl, ↓reduceIte, Nat.reduceEqDiff, Nat.reduceAdd, Nat.zero_add, not_false_eq_true, not_true_eq_false, t3]
    rw [List.take_of_length_le (by omega)] at O
    exact ⟨O, K, hb⟩
theorem rdNewB {h : Heap} (H : Wf h) (xs : List Int) : RdI prog (h.new 5 (bI xs)) .u8 (.slice (some ⟨h.size, 0, none⟩) xs.length (xs.length + 1)) xs := Rd.new H asz5 (by simp [bI])
theorem refEncode_ok {a : Value} {l : List Int} {h : Heap} (ha : RdI prog h .i32 a l) (hl : l.length ≤ 100000000) (hr : ∀ j, isR (l.getD j 0)) :
    ACalls prog 41 #[a] h (fun v h' => RdI prog h' .u8 v (encL l) ∧ Keeps h h') := by
  refine acalls_of_W' func41 rfl (by kernel_rfl) (by kernel_rfl) (by simp [ntmps41]) ?_
  intro H
  simp only [wk, wt, wl, ↓reduceIte, Nat.reduceEqDiff, Nat.reduceAdd, Nat.zero_add, not_false_eq_true, not_true_eq_false]
  refine W_loop (fun tm h' => Keeps h h' ∧ tm 0 = a ∧ ∃ (i : Nat) (v : Value), tm 4 = .int .i64 i ∧ tm 3 = v ∧ i ≤ l.length ∧ Own prog h.size h' 1 v (encL (l.take i)).length (bI (encL (l.take i)))) (fun tm _ => (l.length - intOf (tm 4)).toNat)
    ⟨Keeps.refl H, (by first | rfl | (simp only [wk, wt, wl, ↓reduceIte, Nat.reduceEqDiff, Nat.reduceAdd, Nat.zero_add, not_false_eq_true, not_true_eq_false]; done) | (simp only [wk, wt, wl, ↓reduceIte, Nat.reduceEqDiff, Nat.reduceAdd, Nat.zero_add, not_false_eq_true, not_true_eq_false]; rfl)), 0, .slice none 0 0, (by first | rfl | (simp only [wk, wt, wl, ↓reduceIte, Nat.reduceEqDiff, Nat.reduceAdd, Nat.zero_add, not_false_eq_true, not_true_eq_false]; done) | (simp only [wk, wt, wl, ↓reduceIte, Nat.reduceEqDiff, Nat.reduceAdd, Nat.zero_add, not_false_eq_true, not_true_eq_false]; rfl)), (by first | rfl | (simp only [wk, wt, wl, ↓reduceIte, Nat.reduceEqDiff, Nat.reduceAdd, Nat.zero_add, not_false_eq_true, not_true_eq_false]; done) | (simp only [wk, wt, wl, ↓reduceIte, Nat.reduceEqDiff, Nat.reduceAdd, Nat.zero_add, not_false_eq_true, not_true_eq_false]; rfl)), by omega, by simpa [encL, bI] using Own.nil0⟩ ?_
  rintro tm h' ⟨K, t0, i, v, t7, t3, hi, O⟩
  simp only [wk, wt, wl, ↓reduceIte, Nat.reduceEqDiff, Nat.reduceAdd, Nat.zero_add, not_false_eq_true, not_true_eq_false, t0, t7, t3, RdI.len (ha.keeps K) underlying59]
  refine condK_dec (fun hd => ?_) (fun hd => ?_)
  · have hi1 : i < l.length := by omega
    have hlen := encL_len (l.take i)
    simp only [List.length_take] at hlen
    have hl4 := lenZ_range (r := l.getD i 0)
    unfold lenZ at hl4
    simp (disch := omega) only [wk, wt, wl, ↓reduceIte, Nat.reduceEqDiff, Nat.reduceAdd, Nat.zero_add, not_false_eq_true, not_true_eq_false, t0, t7, t3, RdI.index (ha.keeps K) underlying59 asz21 (q := .i64) (i := (i : Int)), Int.toNat_natCast, RdI.at (ha.keeps K) (t := 21) underlying21 rfl hi1]
    refine (one_ok (hr i)).use_pure ?_
    have N := Keeps.new (Ch.wf K) 5 (bI (encR (l.getD i 0)))
    have X := rdNewB (Ch.wf K) (encR (l.getD i 0))
    have O1 := O.keeps N
    simp only [wk, wt, wl, ↓reduceIte, Nat.reduceEqDiff, Nat.reduceAdd, Nat.zero_add, not_false_eq_true, not_true_eq_false, t0, t7, t3]
    obtain ⟨v2, h2, e2, O2, R2, C2, _⟩ := O1.appendRd (P := prog) (Ch.wf N) (by have := Ch.le K; have := Ch.le N; omega) underlying32 underlying32 rfl elem5 fits5 (by decide) X (by omega)
    rw [e2]; clear e2
    have K2 := (K.trans N).step C2 fun b hb => hb.2
    simp (disch := omega) only [wk, wt, wl, ↓reduceIte, Nat.reduceEqDiff, Nat.reduceAdd, Nat.zero_add, not_false_eq_true, not_true_eq_false, t0, t7, IntWalk.i64_in, intOf_int]
    refine ⟨⟨K2, i + 1, v2, by simp, rfl, by omega, ?_⟩, by omega⟩
    rw [encL_next hi1, List.length_append, bI_append]; exact O2
  · simp only [wk, wt, wl, ↓reduceIte, Nat.reduceEqDiff, Nat.reduceAdd, Nat.zero_add, not_false_eq_true, not_true_eq_false, t3]
    rw [List.take_of_length_le (by omega)] at O
    exact ⟨O.1, K⟩
end Go.Proofs.YtiebaefhlacekaaGreatDoor.Am
end
section
/- A scalar with whose bytes a row begins: contracts of the document's value, same and Whole, by walks. -/
set_option linter.unusedSimpArgs false
set_option linter.unusedVariables false
set_option maxRecDepth 20000
set_option maxHeartbeats 4000000
namespace Go.Proofs.YtiebaefhlacekaaGreatDoor.Am
open Go Go.RowKit Go.Proofs.Tryz
def valGo : Int → List Int → Option Int
  | v, [] => some v
  | v, x :: t => if x < 128 ∨ 191 < x then none else valGo (v * 64 + x - 128) t
def valOff (n : Nat) : Int := if n = 2 then 192 else if n = 3 then 224 else if n = 4 then 240 else 0
def valueZ (b : List Int) (n : Nat) : Int :=
  match valGo (b.getD 0 0 - valOff n) ((b.take n).drop 1) with
  | none => -1
  | some v => if v < 0 ∨ 1114111 < v then -1 else v
theorem valueZ_range {b : List Int} {n : Nat} : -1 ≤ valueZ b n ∧ valueZ b n ≤ 1114111 := by
  unfold valueZ
  split
  · omega
  · split <;> omega
theorem valueZ_enc {r : Int} (hr : validB r = true) (t : List Int) : valueZ (encV r ++ t) (encV r).length = r := by
  simp only [validB, decide_eq_true_eq] at hr
  unfold encV
  repeat' split
  · simp [valueZ, valOff, valGo]; omega
  · simp only [valueZ, valOff, List.cons_append, List.nil_append, List.length_cons, List.length_nil, Nat.zero_add, Nat.reduceAdd, Nat.reduceEqDiff, if_true, if_false, List.take_succ_cons, List.take_zero, List.drop_succ_cons, List.drop_zero, List.getD_cons_zero, valGo]
    rw [if_neg (by omega)]; simp only; rw [if_neg (by omega)]; omega
  · simp only [valueZ, valOff, List.cons_append, List.nil_append, List.length_cons, List.length_nil, Nat.zero_add, Nat.reduceAdd, Nat.reduceEqDiff, if_true, if_false, List.take_succ_cons, List.take_zero, List.drop_succ_cons, List.drop_zero, List.getD_cons_zero, valGo]
    rw [if_neg (by omega), if_neg (by omega)]; simp only; rw [if_neg (by omega)]; omega
  · simp only [valueZ, valOff, List.cons_append, List.nil_append, List.length_cons, List.length_nil, Nat.zero_add, Nat.reduceAdd, Nat.reduceEqDiff, if_true, if_false, List.take_succ_cons, List.take_zero, List.drop_succ_cons, List.drop_zero, List.getD_cons_zero, valGo]
    rw [if_neg (by omega), if_neg (by omega), if_neg (by omega)]; simp only; rw [if_neg (by omega)]; omega
/-- Does the document find a scalar of n bytes? -/
def testB (b : List Int) (n : Nat) : Prop := 0 ≤ valueZ b n ∧ validB (valueZ b n) = true ∧ encV (valueZ b n) = b.take n
theorem testB_iff {b : List Int} {n : Nat} (hb : ∀ x, x ∈ b → isB x) (hn : n ≤ b.length) : testB b n ↔ wholeZ b = some (valueZ b n, n) := by
  constructor
  · rintro ⟨h1, h2, h3⟩
    have hl : (encV (valueZ b n)).length = n := by rw [h3, List.length_take]; omega
    have e : b = encV (valueZ b n) ++ b.drop n := by rw [h3]; exact (List.take_append_drop n b).symm
    have := nextZ_enc h2 (b.drop n)
    rw [← e, hl] at this
    simp only [wholeZ, this]
    rw [if_neg]
    intro e2
    simp only [Prod.mk.injEq] at e2
    rw [e2.1, e2.2] at hl
    revert hl; decide
  · intro h
    simp only [wholeZ] at h
    split at h
    · rename_i p hp
      split at h
      · cases h
      · rename_i hg
        simp only [Option.some.injEq] at h
        subst h
        obtain ⟨h1, t, h2, h3⟩ := nextZ_exact hb hp hg
        refine ⟨?_, h1, ?_⟩
        · simp only [validB, decide_eq_true_eq] at h1; omega
        · have := congrArg (List.take n) h2
          rw [this]; exact (List.take_left' h3.symm).symm
    · cases h
theorem whole_cases {b : List Int} (hb : ∀ x, x ∈ b → isB x) {r : Int} {n : Nat} (h : wholeZ b = some (r, n)) : 1 ≤ n ∧ n ≤ 4 ∧ n ≤ b.length ∧ r = valueZ b n ∧ validB r = true := by
  simp only [wholeZ] at h
  split at h
  · rename_i p hp
    split at h
    · cases h
    · rename_i hg
      simp only [Option.some.injEq] at h
      subst h
      obtain ⟨h1, t, h2, h3⟩ := nextZ_exact hb hp hg
      have := nextZ_le hp
      refine ⟨by omega, by omega, by omega, ?_, h1⟩
      rw [h2, h3]; exact (valueZ_enc h1 t).symm
  · cases h
theorem whole_none {b : List Int} (hb : ∀ x, x ∈ b → isB x) (h : ∀ n, 1 ≤ n → n ≤ 4 → n ≤ b.length → ¬ testB b n) : wholeZ b = none := by
  cases hw : wholeZ b with
  | none => rfl
  | some p =>
    obtain ⟨r, n⟩ := p
    obtain ⟨h1, h2, h3, h4, _⟩ := whole_cases hb hw
    exact absurd ((testB_iff hb h3).2 (by rw [hw, h4])) (h n h1 h2 h3)
theorem value_ok {v : Value} {b : List Int} {n : Nat} {h : Heap} (hv : RdI prog h .u8 v b) (hb : ∀ x, x ∈ b → isB x) (h1 : 1 ≤ n) (h4 : n ≤ 4) (hn : n ≤ b.length) :
    ACalls prog 82 #[v, .int .i64 n] h (fun x h' => x = .int .i32 (valueZ b n) ∧ h' = h) := by
  have hB := fun i => isB_getD hb i
  have hB0 := hB 0
  unfold isB at hB0
  refine acalls_of_W func82 rfl (by kernel_rfl) (by kernel_rfl) (by simp [ntmps82]) ?_
  simp (disch := omega) only [wk, wt, wl, ↓reduceIte, Nat.reduceEqDiff, Nat.reduceAdd, Nat.zero_add, not_false_eq_true, not_true_eq_false, RdI.index hv underlying32 asz5 (q := .i64) (i := 0), Int.toNat_zero, RdI.at hv underlying5 rfl (i := 0), aconv, IntWalk.i64_in]
  have hoff : 0 ≤ valOff n ∧ valOff n ≤ 240 := by unfold valOff; repeat' split <;> omega
  rcases (show n = 1 ∨ n = 2 ∨ n = 3 ∨ n = 4 by omega) with rfl | rfl | rfl | rfl
  · have d2 : decide ((1 : Int) = 2) = false := by decide
    have d3 : decide ((1 : Int) = 3) = false := by decide
    have d4 : decide ((1 : Int) = 4) = false := by decide
    simp (disch := omega) only [wk, wt, wl, ↓reduceIte, Nat.reduceEqDiff, Nat.reduceAdd, Nat.zero_add, not_false_eq_true, not_true_eq_false, d2, d3, d4, Int.cast_ofNat_Int]
    have hvo : valOff 1 = 0 := by decide
    obtain ⟨G, hG⟩ : ∃ G, valGo (b.getD 0 0 - valOff 1) ((b.take 1).drop 1) = G := ⟨_, rfl⟩
    refine W_loop (fun tm h' => h' = h ∧ tm 0 = v ∧ tm 1 = .int .i64 1 ∧ ∃ (i : Nat) (y : Int), tm 7 = .int .i64 i ∧ tm 6 = .int .i64 y ∧ 1 ≤ i ∧ i ≤ 1 ∧ ((i = 1 ∧ -240 ≤ y ∧ y ≤ 255) ∨ (i = 2 ∧ -15360 ≤ y ∧ y ≤ 16383) ∨ (i = 3 ∧ -983040 ≤ y ∧ y ≤ 1048575) ∨ (i = 4 ∧ -62914560 ≤ y ∧ y ≤ 67108863)) ∧ G = valGo y ((b.take 1).drop i))
      (fun tm _ => (1 - intOf (tm 7)).toNat) ⟨rfl, (by first | rfl | (simp only [wk, wt, wl, ↓reduceIte, Nat.reduceEqDiff, Nat.reduceAdd, Nat.zero_add, not_false_eq_true, not_true_eq_false]; done) | (simp only [wk, wt, wl, ↓reduceIte, Nat.reduceEqDiff, Nat.reduceAdd, Nat.zero_add, not_false_eq_true, not_true_eq_false]; rfl)), (by first | rfl | (simp only [wk, wt, wl, ↓reduceIte, Nat.reduceEqDiff, Nat.reduceAdd, Nat.zero_add, not_false_eq_true, not_true_eq_false]; done) | (simp only [wk, wt, wl, ↓reduceIte, Nat.reduceEqDiff, Nat.reduceAdd, Nat.zero_add, not_false_eq_true, not_true_eq_false]; rfl)), 1, b.getD 0 0 - valOff 1, (by first | rfl | (simp only [wk, wt, wl, ↓reduceIte, Nat.reduceEqDiff, Nat.reduceAdd, Nat.zero_add, not_false_eq_true, not_true_eq_false]; done) | (simp only [wk, wt, wl, ↓reduceIte, Nat.reduceEqDiff, Nat.reduceAdd, Nat.zero_add, not_false_eq_true, not_true_eq_false]; rfl)), ?_, by omega, by omega, .inl ⟨rfl, by omega, by omega⟩, hG.symm⟩ ?_
    · simp only [wk, wt, wl, ↓reduceIte, Nat.reduceEqDiff, Nat.reduceAdd, Nat.zero_add, not_false_eq_true, not_true_eq_false, hvo, Int.sub_zero]
    rintro tm h' ⟨rfl, t0, t1, i, y, t7, t6, hi1, hi2, hy, hgo⟩
    simp only [wk, wt, wl, ↓reduceIte, Nat.reduceEqDiff, Nat.reduceAdd, Nat.zero_add, not_false_eq_true, not_true_eq_false, t0, t1, t7, t6]
    refine condK_dec (fun hd => ?_) (fun hd => ?_)
    · have hib : i < b.length := by omega
      have hit : i < (b.take 1).length := by rw [List.length_take]; omega
      rw [List.drop_eq_getElem_cons hit] at hgo
      have LX := RdI.at hv (t := 5) underlying5 rfl hib
      have ex : (b.take 1)[i] = b.getD i 0 := by rw [List.getElem_take, List.getD_eq_getElem?_getD, List.getElem?_eq_getElem hib]; rfl
      rw [ex] at hgo
      have hx := hB i
      generalize b.getD i 0 = x at LX hgo hx
      simp only [valGo] at hgo
      unfold isB at hx
      by_cases hbad : x < 128 ∨ 191 < x
      · rw [if_pos hbad] at hgo
        have fin : valueZ b 1 = -1 := by simp only [valueZ, hG, hgo]
        by_cases hl1 : x < 128
        · have e1 : decide (x < 128) = true := decide_eq_true hl1
          simp (disch := omega) only [wk, wt, wl, ↓reduceIte, Nat.reduceEqDiff, Nat.reduceAdd, Nat.zero_add, not_false_eq_true, not_true_eq_false, t0, t1, t7, t6, RdI.index hv underlying32 asz5 (q := .i64) (i := (i : Int)), Int.toNat_natCast, LX, e1]
          rw [fin]; exact ⟨rfl, trivial⟩
        · have e1 : decide (x < 128) = false := decide_eq_false hl1
          have e2 : decide (191 < x) = true := decide_eq_true (by omega)
          simp (disch := omega) only [wk, wt, wl, ↓reduceIte, Nat.reduceEqDiff, Nat.reduceAdd, Nat.zero_add, not_false_eq_true, not_true_eq_false, t0, t1, t7, t6, RdI.index hv underlying32 asz5 (q := .i64) (i := (i : Int)), Int.toNat_natCast, LX, e1, e2]
          rw [fin]; exact ⟨rfl, trivial⟩
      · rw [if_neg hbad] at hgo
        have e1 : decide (x < 128) = false := decide_eq_false (by omega)
        have e2 : decide (191 < x) = false := decide_eq_false (by omega)
        simp (disch := omega) only [wk, wt, wl, ↓reduceIte, Nat.reduceEqDiff, Nat.reduceAdd, Nat.zero_add, not_false_eq_true, not_true_eq_false, t0, t1, t7, t6, RdI.index hv underlying32 asz5 (q := .i64) (i := (i : Int)), Int.toNat_natCast, LX, e1, e2, aconv, IntWalk.i64_in, intOf_int]
        exact ⟨⟨i + 1, y * 64 + x - 128, by simp, rfl, by omega, by omega, by omega, hgo⟩, by omega⟩
    · have hie : i = 1 := by omega
      rw [List.drop_of_length_le (by rw [List.length_take]; omega)] at hgo
      simp only [valGo] at hgo
      by_cases hbad : y < 0 ∨ 1114111 < y
      · have fin : valueZ b 1 = -1 := by simp only [valueZ, hG, hgo]; rw [if_pos hbad]
        by_cases hl1 : y < 0
        · have e1 : decide (y < 0) = true := decide_eq_true hl1
          simp (disch := omega) only [wk, wt, wl, ↓reduceIte, Nat.reduceEqDiff, Nat.reduceAdd, Nat.zero_add, not_false_eq_true, not_true_eq_false, t0, t1, t7, t6, e1]
          rw [fin]; exact ⟨rfl, trivial⟩
        · have e1 : decide (y < 0) = false := decide_eq_false hl1
          have e2 : decide (1114111 < y) = true := decide_eq_true (by omega)
          simp (disch := omega) only [wk, wt, wl, ↓reduceIte, Nat.reduceEqDiff, Nat.reduceAdd, Nat.zero_add, not_false_eq_true, not_true_eq_false, t0, t1, t7, t6, e1, e2]
          rw [fin]; exact ⟨rfl, trivial⟩
      · have fin : valueZ b 1 = y := by simp only [valueZ, hG, hgo]; rw [if_neg hbad]
        have e1 : decide (y < 0) = false := decide_eq_false (by omega)
        have e2 : decide (1114111 < y) = false := decide_eq_false (by omega)
        simp (disch := omega) only [wk, wt, wl, ↓reduceIte, Nat.reduceEqDiff, Nat.reduceAdd, Nat.zero_add, not_false_eq_true, not_true_eq_false, t0, t1, t7, t6, e1, e2, aconv, IntWalk.i32_in]
        rw [fin]; exact ⟨rfl, trivial⟩
  · have d2 : decide ((2 : Int) = 2) = true := by decide
    simp (disch := omega) only [wk, wt, wl, ↓reduceIte, Nat.reduceEqDiff, Nat.reduceAdd, Nat.zero_add, not_false_eq_true, not_true_eq_false, d2, Int.cast_ofNat_Int, IntWalk.i64_in]
    have hvo : valOff 2 = 192 := by decide
    obtain ⟨G, hG⟩ : ∃ G, valGo (b.getD 0 0 - valOff 2) ((b.take 2).drop 1) = G := ⟨_, rfl⟩
    refine W_loop (fun tm h' => h' = h ∧ tm 0 = v ∧ tm 1 = .int .i64 2 ∧ ∃ (i : Nat) (y : Int), tm 7 = .int .i64 i ∧ tm 6 = .int .i64 y ∧ 1 ≤ i ∧ i ≤ 2 ∧ ((i = 1 ∧ -240 ≤ y ∧ y ≤ 255) ∨ (i = 2 ∧ -15360 ≤ y ∧ y ≤ 16383) ∨ (i = 3 ∧ -983040 ≤ y ∧ y ≤ 1048575) ∨ (i = 4 ∧ -62914560 ≤ y ∧ y ≤ 67108863)) ∧ G = valGo y ((b.take 2).drop i))
      (fun tm _ => (2 - intOf (tm 7)).toNat) ⟨rfl, (by first | rfl | (simp only [wk, wt, wl, ↓reduceIte, Nat.reduceEqDiff, Nat.reduceAdd, Nat.zero_add, not_false_eq_true, not_true_eq_false]; done) | (simp only [wk, wt, wl, ↓reduceIte, Nat.reduceEqDiff, Nat.reduceAdd, Nat.zero_add, not_false_eq_true, not_true_eq_false]; rfl)), (by first | rfl | (simp only [wk, wt, wl, ↓reduceIte, Nat.reduceEqDiff, Nat.reduceAdd, Nat.zero_add, not_false_eq_true, not_true_eq_false]; done) | (simp only [wk, wt, wl, ↓reduceIte, Nat.reduceEqDiff, Nat.reduceAdd, Nat.zero_add, not_false_eq_true, not_true_eq_false]; rfl)), 1, b.getD 0 0 - valOff 2, (by first | rfl | (simp only [wk, wt, wl, ↓reduceIte, Nat.reduceEqDiff, Nat.reduceAdd, Nat.zero_add, not_false_eq_true, not_true_eq_false]; done) | (simp only [wk, wt, wl, ↓reduceIte, Nat.reduceEqDiff, Nat.reduceAdd, Nat.zero_add, not_false_eq_true, not_true_eq_false]; rfl)), ?_, by omega, by omega, .inl ⟨rfl, by omega, by omega⟩, hG.symm⟩ ?_
    · simp only [wk, wt, wl, ↓reduceIte, Nat.reduceEqDiff, Nat.reduceAdd, Nat.zero_add, not_false_eq_true, not_true_eq_false, hvo, Int.sub_zero]
    rintro tm h' ⟨rfl, t0, t1, i, y, t7, t6, hi1, hi2, hy, hgo⟩
    simp only [wk, wt, wl, ↓reduceIte, Nat.reduceEqDiff, Nat.reduceAdd, Nat.zero_add, not_false_eq_true, not_true_eq_false, t0, t1, t7, t6]
    refine condK_dec (fun hd => ?_) (fun hd => ?_)
    · have hib : i < b.length := by omega
      have hit : i < (b.take 2).length := by rw [List.length_take]; omega
      rw [List.drop_eq_getElem_cons hit] at hgo
      have LX := RdI.at hv (t := 5) underlying5 rfl hib
      have ex : (b.take 2)[i] = b.getD i 0 := by rw [List.getElem_take, List.getD_eq_getElem?_getD, List.getElem?_eq_getElem hib]; rfl
      rw [ex] at hgo
      have hx := hB i
      generalize b.getD i 0 = x at LX hgo hx
      simp only [valGo] at hgo
      unfold isB at hx
      by_cases hbad : x < 128 ∨ 191 < x
      · rw [if_pos hbad] at hgo
        have fin : valueZ b 2 = -1 := by simp only [valueZ, hG, hgo]
        by_cases hl1 : x < 128
        · have e1 : decide (x < 128) = true := decide_eq_true hl1
          simp (disch := omega) only [wk, wt, wl, ↓reduceIte, Nat.reduceEqDiff, Nat.reduceAdd, Nat.zero_add, not_false_eq_true, not_true_eq_false, t0, t1, t7, t6, RdI.index hv underlying32 asz5 (q := .i64) (i := (i : Int)), Int.toNat_natCast, LX, e1]
          rw [fin]; exact ⟨rfl, trivial⟩
        · have e1 : decide (x < 128) = false := decide_eq_false hl1
          have e2 : decide (191 < x) = true := decide_eq_true (by omega)
          simp (disch := omega) only [wk, wt, wl, ↓reduceIte, Nat.reduceEqDiff, Nat.reduceAdd, Nat.zero_add, not_false_eq_true, not_true_eq_false, t0, t1, t7, t6, RdI.index hv underlying32 asz5 (q := .i64) (i := (i : Int)), Int.toNat_natCast, LX, e1, e2]
          rw [fin]; exact ⟨rfl, trivial⟩
      · rw [if_neg hbad] at hgo
        have e1 : decide (x < 128) = false := decide_eq_false (by omega)
        have e2 : decide (191 < x) = false := decide_eq_false (by omega)
        simp (disch := omega) only [wk, wt, wl, ↓reduceIte, Nat.reduceEqDiff, Nat.reduceAdd, Nat.zero_add, not_false_eq_true, not_true_eq_false, t0, t1, t7, t6, RdI.index hv underlying32 asz5 (q := .i64) (i := (i : Int)), Int.toNat_natCast, LX, e1, e2, aconv, IntWalk.i64_in, intOf_int]
        exact ⟨⟨i + 1, y * 64 + x - 128, by simp, rfl, by omega, by omega, by omega, hgo⟩, by omega⟩
    · have hie : i = 2 := by omega
      rw [List.drop_of_length_le (by rw [List.length_take]; omega)] at hgo
      simp only [valGo] at hgo
      by_cases hbad : y < 0 ∨ 1114111 < y
      · have fin : valueZ b 2 = -1 := by simp only [valueZ, hG, hgo]; rw [if_pos hbad]
        by_cases hl1 : y < 0
        · have e1 : decide (y < 0) = true := decide_eq_true hl1
          simp (disch := omega) only [wk, wt, wl, ↓reduceIte, Nat.reduceEqDiff, Nat.reduceAdd, Nat.zero_add, not_false_eq_true, not_true_eq_false, t0, t1, t7, t6, e1]
          rw [fin]; exact ⟨rfl, trivial⟩
        · have e1 : decide (y < 0) = false := decide_eq_false hl1
          have e2 : decide (1114111 < y) = true := decide_eq_true (by omega)
          simp (disch := omega) only [wk, wt, wl, ↓reduceIte, Nat.reduceEqDiff, Nat.reduceAdd, Nat.zero_add, not_false_eq_true, not_true_eq_false, t0, t1, t7, t6, e1, e2]
          rw [fin]; exact ⟨rfl, trivial⟩
      · have fin : valueZ b 2 = y := by simp only [valueZ, hG, hgo]; rw [if_neg hbad]
        have e1 : decide (y < 0) = false := decide_eq_false (by omega)
        have e2 : decide (1114111 < y) = false := decide_eq_false (by omega)
        simp (disch := omega) only [wk, wt, wl, ↓reduceIte, Nat.reduceEqDiff, Nat.reduceAdd, Nat.zero_add, not_false_eq_true, not_true_eq_false, t0, t1, t7, t6, e1, e2, aconv, IntWalk.i32_in]
        rw [fin]; exact ⟨rfl, trivial⟩
  · have d2 : decide ((3 : Int) = 2) = false := by decide
    have d3 : decide ((3 : Int) = 3) = true := by decide
    simp (disch := omega) only [wk, wt, wl, ↓reduceIte, Nat.reduceEqDiff, Nat.reduceAdd, Nat.zero_add, not_false_eq_true, not_true_eq_false, d2, d3, Int.cast_ofNat_Int, IntWalk.i64_in]
    have hvo : valOff 3 = 224 := by decide
    obtain ⟨G, hG⟩ : ∃ G, valGo (b.getD 0 0 - valOff 3) ((b.take 3).drop 1) = G := ⟨_, rfl⟩
    refine W_loop (fun tm h' => h' = h ∧ tm 0 = v ∧ tm 1 = .int .i64 3 ∧ ∃ (i : Nat) (y : Int), tm 7 = .int .i64 i ∧ tm 6 = .int .i64 y ∧ 1 ≤ i ∧ i ≤ 3 ∧ ((i = 1 ∧ -240 ≤ y ∧ y ≤ 255) ∨ (i = 2 ∧ -15360 ≤ y ∧ y ≤ 16383) ∨ (i = 3 ∧ -983040 ≤ y ∧ y ≤ 1048575) ∨ (i = 4 ∧ -62914560 ≤ y ∧ y ≤ 67108863)) ∧ G = valGo y ((b.take 3).drop i))
      (fun tm _ => (3 - intOf (tm 7)).toNat) ⟨rfl, (by first | rfl | (simp only [wk, wt, wl, ↓reduceIte, Nat.reduceEqDiff, Nat.reduceAdd, Nat.zero_add, not_false_eq_true, not_true_eq_false]; done) | (simp only [wk, wt, wl, ↓reduceIte, Nat.reduceEqDiff, Nat.reduceAdd, Nat.zero_add, not_false_eq_true, not_true_eq_false]; rfl)), (by first | rfl | (simp only [wk, wt, wl, ↓reduceIte, Nat.reduceEqDiff, Nat.reduceAdd, Nat.zero_add, not_false_eq_true, not_true_eq_false]; done) | (simp only [wk, wt, wl, ↓reduceIte, Nat.reduceEqDiff, Nat.reduceAdd, Nat.zero_add, not_false_eq_true, not_true_eq_false]; rfl)), 1, b.getD 0 0 - valOff 3, (by first | rfl | (simp only [wk, wt, wl, ↓reduceIte, Nat.reduceEqDiff, Nat.reduceAdd, Nat.zero_add, not_false_eq_true, not_true_eq_false]; done) | (simp only [wk, wt, wl, ↓reduceIte, Nat.reduceEqDiff, Nat.reduceAdd, Nat.zero_add, not_false_eq_true, not_true_eq_false]; rfl)), ?_, by omega, by omega, .inl ⟨rfl, by omega, by omega⟩, hG.symm⟩ ?_
    · simp only [wk, wt, wl, ↓reduceIte, Nat.reduceEqDiff, Nat.reduceAdd, Nat.zero_add, not_false_eq_true, not_true_eq_false, hvo, Int.sub_zero]
    rintro tm h' ⟨rfl, t0, t1, i, y, t7, t6, hi1, hi2, hy, hgo⟩
    simp only [wk, wt, wl, ↓reduceIte, Nat.reduceEqDiff, Nat.reduceAdd, Nat.zero_add, not_false_eq_true, not_true_eq_false, t0, t1, t7, t6]
    refine condK_dec (fun hd => ?_) (fun hd => ?_)
    · have hib : i < b.length := by omega
      have hit : i < (b.take 3).length := by rw [List.length_take]; omega
      rw [List.drop_eq_getElem_cons hit] at hgo
      have LX := RdI.at hv (t := 5) underlying5 rfl hib
      have ex : (b.take 3)[i] = b.getD i 0 := by rw [List.getElem_take, List.getD_eq_getElem?_getD, List.getElem?_eq_getElem hib]; rfl
      rw [ex] at hgo
      have hx := hB i
      generalize b.getD i 0 = x at LX hgo hx
      simp only [valGo] at hgo
      unfold isB at hx
      by_cases hbad : x < 128 ∨ 191 < x
      · rw [if_pos hbad] at hgo
        have fin : valueZ b 3 = -1 := by simp only [valueZ, hG, hgo]
        by_cases hl1 : x < 128
        · have e1 : decide (x < 128) = true := decide_eq_true hl1
          simp (disch := omega) only [wk, wt, wl, ↓reduceIte, Nat.reduceEqDiff, Nat.reduceAdd, Nat.zero_add, not_false_eq_true, not_true_eq_false, t0, t1, t7, t6, RdI.index hv underlying32 asz5 (q := .i64) (i := (i : Int)), Int.toNat_natCast, LX, e1]
          rw [fin]; exact ⟨rfl, trivial⟩
        · have e1 : decide (x < 128) = false := decide_eq_false hl1
          have e2 : decide (191 < x) = true := decide_eq_true (by omega)
          simp (disch := omega) only [wk, wt, wl, ↓reduceIte, Nat.reduceEqDiff, Nat.reduceAdd, Nat.zero_add, not_false_eq_true, not_true_eq_false, t0, t1, t7, t6, RdI.index hv underlying32 asz5 (q := .i64) (i := (i : Int)), Int.toNat_natCast, LX, e1, e2]
          rw [fin]; exact ⟨rfl, trivial⟩
      · rw [if_neg hbad] at hgo
        have e1 : decide (x < 128) = false := decide_eq_false (by omega)
        have e2 : decide (191 < x) = false := decide_eq_false (by omega)
        simp (disch := omega) only [wk, wt, wl, ↓reduceIte, Nat.reduceEqDiff, Nat.reduceAdd, Nat.zero_add, not_false_eq_true, not_true_eq_false, t0, t1, t7, t6, RdI.index hv underlying32 asz5 (q := .i64) (i := (i : Int)), Int.toNat_natCast, LX, e1, e2, aconv, IntWalk.i64_in, intOf_int]
        exact ⟨⟨i + 1, y * 64 + x - 128, by simp, rfl, by omega, by omega, by omega, hgo⟩, by omega⟩
    · have hie : i = 3 := by omega
      rw [List.drop_of_length_le (by rw [List.length_take]; omega)] at hgo
      simp only [valGo] at hgo
      by_cases hbad : y < 0 ∨ 1114111 < y
      · have fin : valueZ b 3 = -1 := by simp only [valueZ, hG, hgo]; rw [if_pos hbad]
        by_cases hl1 : y < 0
        · have e1 : decide (y < 0) = true := decide_eq_true hl1
          simp (disch := omega) only [wk, wt, wl, ↓reduceIte, Nat.reduceEqDiff, Nat.reduceAdd, Nat.zero_add, not_false_eq_true, not_true_eq_false, t0, t1, t7, t6, e1]
          rw [fin]; exact ⟨rfl, trivial⟩
        · have e1 : decide (y < 0) = false := decide_eq_false hl1
          have e2 : decide (1114111 < y) = true := decide_eq_true (by omega)
          simp (disch := omega) only [wk, wt, wl, ↓reduceIte, Nat.reduceEqDiff, Nat.reduceAdd, Nat.zero_add, not_false_eq_true, not_true_eq_false, t0, t1, t7, t6, e1, e2]
          rw [fin]; exact ⟨rfl, trivial⟩
      · have fin : valueZ b 3 = y := by simp only [valueZ, hG, hgo]; rw [if_neg hbad]
        have e1 : decide (y < 0) = false := decide_eq_false (by omega)
        have e2 : decide (1114111 < y) = false := decide_eq_false (by omega)
        simp (disch := omega) only [wk, wt, wl, ↓reduceIte, Nat.reduceEqDiff, Nat.reduceAdd, Nat.zero_add, not_false_eq_true, not_true_eq_false, t0, t1, t7, t6, e1, e2, aconv, IntWalk.i32_in]
        rw [fin]; exact ⟨rfl, trivial⟩
  · have d2 : decide ((4 : Int) = 2) = false := by decide
    have d3 : decide ((4 : Int) = 3) = false := by decide
    have d4 : decide ((4 : Int) = 4) = true := by decide
    simp (disch := omega) only [wk, wt, wl, ↓reduceIte, Nat.reduceEqDiff, Nat.reduceAdd, Nat.zero_add, not_false_eq_true, not_true_eq_false, d2, d3, d4, Int.cast_ofNat_Int, IntWalk.i64_in]
    have hvo : valOff 4 = 240 := by decide
    obtain ⟨G, hG⟩ : ∃ G, valGo (b.getD 0 0 - valOff 4) ((b.take 4).drop 1) = G := ⟨_, rfl⟩
    refine W_loop (fun tm h' => h' = h ∧ tm 0 = v ∧ tm 1 = .int .i64 4 ∧ ∃ (i : Nat) (y : Int), tm 7 = .int .i64 i ∧ tm 6 = .int .i64 y ∧ 1 ≤ i ∧ i ≤ 4 ∧ ((i = 1 ∧ -240 ≤ y ∧ y ≤ 255) ∨ (i = 2 ∧ -15360 ≤ y ∧ y ≤ 16383) ∨ (i = 3 ∧ -983040 ≤ y ∧ y ≤ 1048575) ∨ (i = 4 ∧ -62914560 ≤ y ∧ y ≤ 67108863)) ∧ G = valGo y ((b.take 4).drop i))
      (fun tm _ => (4 - intOf (tm 7)).toNat) ⟨rfl, (by first | rfl | (simp only [wk, wt, wl, ↓reduceIte, Nat.reduceEqDiff, Nat.reduceAdd, Nat.zero_add, not_false_eq_true, not_true_eq_false]; done) | (simp only [wk, wt, wl, ↓reduceIte, Nat.reduceEqDiff, Nat.reduceAdd, Nat.zero_add, not_false_eq_true, not_true_eq_false]; rfl)), (by first | rfl | (simp only [wk, wt, wl, ↓reduceIte, Nat.reduceEqDiff, Nat.reduceAdd, Nat.zero_add, not_false_eq_true, not_true_eq_false]; done) | (simp only [wk, wt, wl, ↓reduceIte, Nat.reduceEqDiff, Nat.reduceAdd, Nat.zero_add, not_false_eq_true, not_true_eq_false]; rfl)), 1, b.getD 0 0 - valOff 4, (by first | rfl | (simp only [wk, wt, wl, ↓reduceIte, Nat.reduceEqDiff, Nat.reduceAdd, Nat.zero_add, not_false_eq_true, not_true_eq_false]; done) | (simp only [wk, wt, wl, ↓reduceIte, Nat.reduceEqDiff, Nat.reduceAdd, Nat.zero_add, not_false_eq_true, not_true_eq_false]; rfl)), ?_, by omega, by omega, .inl ⟨rfl, by omega, by omega⟩, hG.symm⟩ ?_
    · simp only [wk, wt, wl, ↓reduceIte, Nat.reduceEqDiff, Nat.reduceAdd, Nat.zero_add, not_false_eq_true, not_true_eq_false, hvo, Int.sub_zero]
    rintro tm h' ⟨rfl, t0, t1, i, y, t7, t6, hi1, hi2, hy, hgo⟩
    simp only [wk, wt, wl, ↓reduceIte, Nat.reduceEqDiff, Nat.reduceAdd, Nat.zero_add, not_false_eq_true, not_true_eq_false, t0, t1, t7, t6]
    refine condK_dec (fun hd => ?_) (fun hd => ?_)
    · have hib : i < b.length := by omega
      have hit : i < (b.take 4).length := by rw [List.length_take]; omega
      rw [List.drop_eq_getElem_cons hit] at hgo
      have LX := RdI.at hv (t := 5) underlying5 rfl hib
      have ex : (b.take 4)[i] = b.getD i 0 := by rw [List.getElem_take, List.getD_eq_getElem?_getD, List.getElem?_eq_getElem hib]; rfl
      rw [ex] at hgo
      have hx := hB i
      generalize b.getD i 0 = x at LX hgo hx
      simp only [valGo] at hgo
      unfold isB at hx
      by_cases hbad : x < 128 ∨ 191 < x
      · rw [if_pos hbad] at hgo
        have fin : valueZ b 4 = -1 := by simp only [valueZ, hG, hgo]
        by_cases hl1 : x < 128
        · have e1 : decide (x < 128) = true := decide_eq_true hl1
          simp (disch := omega) only [wk, wt, wl, ↓reduceIte, Nat.reduceEqDiff, Nat.reduceAdd, Nat.zero_add, not_false_eq_true, not_true_eq_false, t0, t1, t7, t6, RdI.index hv underlying32 asz5 (q := .i64) (i := (i : Int)), Int.toNat_natCast, LX, e1]
          rw [fin]; exact ⟨rfl, trivial⟩
        · have e1 : decide (x < 128) = false := decide_eq_false hl1
          have e2 : decide (191 < x) = true := decide_eq_true (by omega)
          simp (disch := omega) only [wk, wt, wl, ↓reduceIte, Nat.reduceEqDiff, Nat.reduceAdd, Nat.zero_add, not_false_eq_true, not_true_eq_false, t0, t1, t7, t6, RdI.index hv underlying32 asz5 (q := .i64) (i := (i : Int)), Int.toNat_natCast, LX, e1, e2]
          rw [fin]; exact ⟨rfl, trivial⟩
      · rw [if_neg hbad] at hgo
        have e1 : decide (x < 128) = false := decide_eq_false (by omega)
        have e2 : decide (191 < x) = false := decide_eq_false (by omega)
        simp (disch := omega) only [wk, wt, wl, ↓reduceIte, Nat.reduceEqDiff, Nat.reduceAdd, Nat.zero_add, not_false_eq_true, not_true_eq_false, t0, t1, t7, t6, RdI.index hv underlying32 asz5 (q := .i64) (i := (i : Int)), Int.toNat_natCast, LX, e1, e2, aconv, IntWalk.i64_in, intOf_int]
        exact ⟨⟨i + 1, y * 64 + x - 128, by simp, rfl, by omega, by omega, by omega, hgo⟩, by omega⟩
    · have hie : i = 4 := by omega
      rw [List.drop_of_length_le (by rw [List.length_take]; omega)] at hgo
      simp only [valGo] at hgo
      by_cases hbad : y < 0 ∨ 1114111 < y
      · have fin : valueZ b 4 = -1 := by simp only [valueZ, hG, hgo]; rw [if_pos hbad]
        by_cases hl1 : y < 0
        · have e1 : decide (y < 0) = true := decide_eq_true hl1
          simp (disch := omega) only [wk, wt, wl, ↓reduceIte, Nat.reduceEqDiff, Nat.reduceAdd, Nat.zero_add, not_false_eq_true, not_true_eq_false, t0, t1, t7, t6, e1]
          rw [fin]; exact ⟨rfl, trivial⟩
        · have e1 : decide (y < 0) = false := decide_eq_false hl1
          have e2 : decide (1114111 < y) = true := decide_eq_true (by omega)
          simp (disch := omega) only [wk, wt, wl, ↓reduceIte, Nat.reduceEqDiff, Nat.reduceAdd, Nat.zero_add, not_false_eq_true, not_true_eq_false, t0, t1, t7, t6, e1, e2]
          rw [fin]; exact ⟨rfl, trivial⟩
      · have fin : valueZ b 4 = y := by simp only [valueZ, hG, hgo]; rw [if_neg hbad]
        have e1 : decide (y < 0) = false := decide_eq_false (by omega)
        have e2 : decide (1114111 < y) = false := decide_eq_false (by omega)
        simp (disch := omega) only [wk, wt, wl, ↓reduceIte, Nat.reduceEqDiff, Nat.reduceAdd, Nat.zero_add, not_false_eq_true, not_true_eq_false, t0, t1, t7, t6, e1, e2, aconv, IntWalk.i32_in]
        rw [fin]; exact ⟨rfl, trivial⟩
end Go.Proofs.YtiebaefhlacekaaGreatDoor.Am
end
section
/- A scalar with whose bytes a row begins: contracts of the document's same and Whole, by walks. -/
set_option linter.unusedSimpArgs false
set_option linter.unusedVariables false
set_option maxRecDepth 20000
set_option maxHeartbeats 4000000
namespace Go.Proofs.YtiebaefhlacekaaGreatDoor.Am
open Go Go.RowKit Go.Proofs.Tryz
theorem sameB_ok {a b : Value} {xs ys : List Int} {h : Heap} (ha : RdI prog h .u8 a xs) (hb : RdI prog h .u8 b ys) (hlen : xs.length < 9223372036854775807) : ACalls prog 83 #[a, b] h (fun v h' => v = .bool (decide (xs = ys)) ∧ h' = h) := by
  refine acalls_of_W func83 rfl (by kernel_rfl) (by kernel_rfl) (by simp [ntmps83]) ?_
  simp only [wk, wt, wl, ↓reduceIte, Nat.reduceEqDiff, Nat.reduceAdd, Nat.zero_add, not_false_eq_true, not_true_eq_false, Rd.len ha underlying32, Rd.len hb underlying32]
  refine condK_dec (fun hc => ?_) (fun hc => ?_)
  · simp only [wk, wt, wl, ↓reduceIte, Nat.reduceEqDiff, Nat.reduceAdd, Nat.zero_add, not_false_eq_true, not_true_eq_false]
    refine ⟨?_, trivial⟩
    have : ¬ xs = ys := fun e => hc (by rw [e])
    simp [this]
  · have hl : xs.length = ys.length := by omega
    simp only [wk, wt, wl, ↓reduceIte, Nat.reduceEqDiff, Nat.reduceAdd, Nat.zero_add, not_false_eq_true, not_true_eq_false]
    refine W_loop (fun tm h' => h' = h ∧ tm 0 = a ∧ tm 1 = b ∧ ∃ i : Nat, tm 5 = .int .i64 i ∧ i ≤ xs.length ∧ ∀ j, j < i → xs.getD j 0 = ys.getD j 0) (fun tm _ => (xs.length - intOf (tm 5)).toNat) ⟨rfl, by simp only [wk, wt, wl, ↓reduceIte, Nat.reduceEqDiff, Nat.reduceAdd, Nat.zero_add, not_false_eq_true, not_true_eq_false], by simp only [wk, wt, wl, ↓reduceIte, Nat.reduceEqDiff, Nat.reduceAdd, Nat.zero_add, not_false_eq_true, not_true_eq_false], 0, by simp only [wk, wt, wl, ↓reduceIte, Nat.reduceEqDiff, Nat.reduceAdd, Nat.zero_add, not_false_eq_true, not_true_eq_false]; rfl, by omega, fun j hj => by omega⟩ ?_
    rintro tm h' ⟨rfl, h0, h1, i, h5, hi, hj⟩
    simp only [wk, wt, wl, ↓reduceIte, Nat.reduceEqDiff, Nat.reduceAdd, Nat.zero_add, not_false_eq_true, not_true_eq_false, h0, h1, h5, Rd.len ha underlying32]
    refine condK_dec (fun hc => ?_) (fun hc => ?_)
    · simp only [wk, wt, wl, ↓reduceIte, Nat.reduceEqDiff, Nat.reduceAdd, Nat.zero_add, not_false_eq_true, not_true_eq_false]
      refine adraw_order [(0, false), (1, false), (2, false), (3, false), (4, false), (5, false), (6, false), (7, false), (8, false)] mixed (by kernel_rfl) (by kernel_rfl) (by kernel_rfl) (by with_reducible repeat (first | exact PF_retK | refine PF_thenK ?_ | refine PF_blockK ?_)) ?_
      simp only [wk, wt, wl, ↓reduceIte, Nat.reduceEqDiff, Nat.reduceAdd, Nat.zero_add, not_false_eq_true, not_true_eq_false, h0, h1, h5, Rd.index ha underlying32 asz5 (q := .i64) (i := i) (by omega) (by omega), Rd.index hb underlying32 asz5 (q := .i64) (i := i) (by omega) (by omega), RdI.at ha underlying5 rfl (i := i) (by omega), RdI.at hb underlying5 rfl (i := i) (by omega)]
      refine condK_dec (fun hd => ?_) (fun hd => ?_)
      · simp only [wk, wt, wl, ↓reduceIte, Nat.reduceEqDiff, Nat.reduceAdd, Nat.zero_add, not_false_eq_true, not_true_eq_false]
        have : ¬ xs = ys := fun e => hd (by rw [e])
        simp [this]
      · simp (disch := omega) only [wk, wt, wl, ↓reduceIte, Nat.reduceEqDiff, Nat.reduceAdd, Nat.zero_add, not_false_eq_true, not_true_eq_false, h0, h1, h5, IntWalk.i64_in, intOf_int]
        refine ⟨⟨i + 1, by simp, by omega, fun j hj' => ?_⟩, by omega⟩
        by_cases e : j = i
        · subst e; exact Decidable.not_not.1 hd
        · exact hj j (by omega)
    · simp only [wk, wt, wl, ↓reduceIte, Nat.reduceEqDiff, Nat.reduceAdd, Nat.zero_add, not_false_eq_true, not_true_eq_false]
      have : xs = ys := getD_ext hl fun j hj' => hj j (by omega)
      simp [this]
def wholeT (b : List Int) : Value :=
  match wholeZ b with
  | some p => .tuple #[.int .i32 p.1, .int .i64 p.2, .bool true]
  | none => .tuple #[.int .i32 0, .int .i64 0, .bool false]
theorem whole_ok {v : Value} {b : List Int} {h : Heap} (hv : RdI prog h .u8 v b) (hb : ∀ x, x ∈ b → isB x) (hl : b.length ≤ 9223372036854775807) :
    ACalls prog 60 #[v] h (fun x h' => x = wholeT b ∧ Keeps h h') := by
  refine acalls_of_W' func60 rfl (by kernel_rfl) (by kernel_rfl) (by simp [ntmps60]) ?_
  intro H
  simp only [wk, wt, wl, ↓reduceIte, Nat.reduceEqDiff, Nat.reduceAdd, Nat.zero_add, not_false_eq_true, not_true_eq_false]
  refine W_loop (fun tm h' => Keeps h h' ∧ tm 0 = v ∧ ∃ n : Nat, tm 5 = .int .i64 n ∧ 1 ≤ n ∧ n ≤ 5 ∧ n ≤ b.length + 1 ∧ ∀ m, 1 ≤ m → m < n → ¬ testB b m) (fun tm _ => (5 - intOf (tm 5)).toNat) ⟨Keeps.refl H, (by first | rfl | (simp only [wk, wt, wl, ↓reduceIte, Nat.reduceEqDiff, Nat.reduceAdd, Nat.zero_add, not_false_eq_true, not_true_eq_false]; done) | (simp only [wk, wt, wl, ↓reduceIte, Nat.reduceEqDiff, Nat.reduceAdd, Nat.zero_add, not_false_eq_true, not_true_eq_false]; rfl)), 1, (by first | rfl | (simp only [wk, wt, wl, ↓reduceIte, Nat.reduceEqDiff, Nat.reduceAdd, Nat.zero_add, not_false_eq_true, not_true_eq_false]; done) | (simp only [wk, wt, wl, ↓reduceIte, Nat.reduceEqDiff, Nat.reduceAdd, Nat.zero_add, not_false_eq_true, not_true_eq_false]; rfl)), by omega, by omega, by omega, fun m h1 h2 => by omega⟩ ?_
  rintro tm h' ⟨K, t0, n, t5, h1, h5, hn, hno⟩
  have hv' := hv.keeps K
  by_cases hgo : n ≤ 4 ∧ n ≤ b.length
  · obtain ⟨h4, hn'⟩ := hgo
    have d1 : decide ((n : Int) ≤ 4) = true := decide_eq_true (by omega)
    have d2 : decide ((n : Int) ≤ b.length) = true := decide_eq_true (by omega)
    simp (disch := omega) only [wk, wt, wl, ↓reduceIte, Nat.reduceEqDiff, Nat.reduceAdd, Nat.zero_add, not_false_eq_true, not_true_eq_false, t0, t5, RdI.len hv' underlying32, d1, d2]
    refine (value_ok hv' hb h1 h4 hn').use_pure ?_
    have zr := valueZ_range (b := b) (n := n)
    have ti := testB_iff hb hn'
    have zR : isR (valueZ b n) := by unfold isR; omega
    have key : ∀ {Q : Value → Heap → Prop}, True := fun {_} => trivial
    have tdef : testB b n ↔ (0 ≤ valueZ b n ∧ validB (valueZ b n) = true ∧ encV (valueZ b n) = b.take n) := Iff.rfl
    generalize valueZ b n = z at zr ti zR tdef ⊢
    have nxt : ¬ testB b n → ∀ m, 1 ≤ m → m < n + 1 → ¬ testB b m := fun hnt m g1 g2 => by
      by_cases e : m = n
      · subst e; exact hnt
      · exact hno m g1 (by omega)
    simp only [wk, wt, wl, ↓reduceIte, Nat.reduceEqDiff, Nat.reduceAdd, Nat.zero_add, not_false_eq_true, not_true_eq_false]
    refine adraw_order [(0, false), (1, false), (2, false), (3, false), (4, true), (5, false), (6, false), (7, false), (9, false), (10, false), (11, false), (8, true), (12, true), (13, false)] mixed (by kernel_rfl) (by kernel_rfl) (by kernel_rfl) (by with_reducible repeat (first | exact PF_retK | refine PF_thenK ?_ | refine PF_blockK ?_)) ?_
    by_cases hz : 0 ≤ z
    · have d3 : decide (0 ≤ z) = true := decide_eq_true hz
      simp (disch := omega) only [wk, wt, wl, ↓reduceIte, Nat.reduceEqDiff, Nat.reduceAdd, Nat.zero_add, not_false_eq_true, not_true_eq_false, t0, t5, d3, dK_t]
      refine (refValid_ok zR).use_pure ?_
      cases hvz : validB z with
      | true =>
        simp (disch := omega) only [wk, wt, wl, ↓reduceIte, Nat.reduceEqDiff, Nat.reduceAdd, Nat.zero_add, not_false_eq_true, not_true_eq_false, t0, t5, dK_t, Rd.sliceHi hv' underlying32 asz5, Int.toNat_natCast]
        refine ⟨Reads.refl _, ?_⟩
        refine (one_ok zR).use_pure ?_
        have ez : encR z = encV z := by rw [encR, fixR, if_pos hvz]
        have N := Keeps.new (Ch.wf K) 5 (bI (encR z))
        have X := rdNewB (Ch.wf K) (encR z)
        have hv2 := hv'.keeps N
        have P2 := hv2.part (L := 0) (H := n) (Nat.zero_le _) hn'
        rw [List.drop_zero, Nat.sub_zero] at P2
        simp (disch := omega) only [wk, wt, wl, ↓reduceIte, Nat.reduceEqDiff, Nat.reduceAdd, Nat.zero_add, not_false_eq_true, not_true_eq_false, t0, t5, dK_t]
        refine ⟨N.reads (Ch.wf K), ?_⟩
        have hel := lenZ_range (r := z)
        unfold lenZ at hel
        refine (sameB_ok X P2 (by omega)).use_pure ?_
        by_cases hs : encR z = b.take n
        · have hw := ti.1 (tdef.2 ⟨hz, hvz, ez ▸ hs⟩)
          have d4 : decide (encR z = b.take n) = true := decide_eq_true hs
          simp (disch := omega) only [wk, wt, wl, ↓reduceIte, Nat.reduceEqDiff, Nat.reduceAdd, Nat.zero_add, not_false_eq_true, not_true_eq_false, t0, t5, dK_t, d4]
          refine ⟨Reads.refl _, ?_⟩
          simp only [wholeT, hw]
          first
            | exact K.trans N
            | exact ⟨rfl, K.trans N⟩
            | exact ⟨trivial, K.trans N⟩
        · have d4 : decide (encR z = b.take n) = false := decide_eq_false hs
          have hnt : ¬ testB b n := fun e => hs (ez.trans (tdef.1 e).2.2)
          simp (disch := omega) only [wk, wt, wl, ↓reduceIte, Nat.reduceEqDiff, Nat.reduceAdd, Nat.zero_add, not_false_eq_true, not_true_eq_false, t0, t5, dK_t, d4, IntWalk.i64_in, intOf_int]
          refine ⟨Reads.refl _, ?_⟩
          exact ⟨⟨K.trans N, n + 1, by simp, by omega, by omega, by omega, nxt hnt⟩, by omega⟩
      | false =>
        have hnt : ¬ testB b n := fun e => by have := (tdef.1 e).2.1; rw [hvz] at this; cases this
        simp (disch := omega) only [wk, wt, wl, ↓reduceIte, Nat.reduceEqDiff, Nat.reduceAdd, Nat.zero_add, not_false_eq_true, not_true_eq_false, t0, t5, dK_t, IntWalk.i64_in, intOf_int]
        repeat (refine ⟨Reads.refl _, ?_⟩)
        exact ⟨⟨K, n + 1, by simp, by omega, by omega, by omega, nxt hnt⟩, by omega⟩
    · have d3 : decide (0 ≤ z) = false := decide_eq_false hz
      have hnt : ¬ testB b n := fun e => hz (tdef.1 e).1
      simp (disch := omega) only [wk, wt, wl, ↓reduceIte, Nat.reduceEqDiff, Nat.reduceAdd, Nat.zero_add, not_false_eq_true, not_true_eq_false, t0, t5, d3, dK_t, IntWalk.i64_in, intOf_int]
      repeat (refine ⟨Reads.refl _, ?_⟩)
      exact ⟨⟨K, n + 1, by simp, by omega, by omega, by omega, nxt hnt⟩, by omega⟩
  · have hw : wholeZ b = none := whole_none hb fun m g1 g2 g3 => hno m g1 (by omega)
    by_cases h4 : n ≤ 4
    · have d1 : decide ((n : Int) ≤ 4) = true := decide_eq_true (by omega)
      have d2 : decide ((n : Int) ≤ b.length) = false := decide_eq_false (by omega)
      simp (disch := omega) only [wk, wt, wl, ↓reduceIte, Nat.reduceEqDiff, Nat.reduceAdd, Nat.zero_add, not_false_eq_true, not_true_eq_false, t0, t5, RdI.len hv' underlying32, d1, d2]
      simp only [wholeT, hw]
      first
        | exact K
        | exact ⟨rfl, K⟩
        | exact ⟨trivial, K⟩
    · have d1 : decide ((n : Int) ≤ 4) = false := decide_eq_false (by omega)
      simp (disch := omega) only [wk, wt, wl, ↓reduceIte, Nat.reduceEqDiff, Nat.reduceAdd, Nat.zero_add, not_false_eq_true, not_true_eq_false, t0, t5, d1]
      simp only [wholeT, hw]
      first
        | exact K
        | exact ⟨rfl, K⟩
        | exact ⟨trivial, K⟩
end Go.Proofs.YtiebaefhlacekaaGreatDoor.Am
end
section
/- Could more bytes make a scalar: contracts of the document's begins and Next, by walks. -/
set_option linter.unusedSimpArgs false
set_option linter.unusedVariables false
set_option maxRecDepth 20000
set_option maxHeartbeats 4000000
namespace Go.Proofs.YtiebaefhlacekaaGreatDoor.Am
open Go Go.RowKit Go.Proofs.Tryz
def beginsZ (b : List Int) : Bool := decide (b ≠ [] ∧ nextZ b = none)
theorem begins_true {b : List Int} {x : Int} (hx : x ∈ endsT) (h : extB b x) : beginsZ b = true := decide_eq_true (ext_iff.1 ⟨x, hx, h⟩)
theorem begins_false {b : List Int} (h : ∀ x, x ∈ endsT → ¬ extB b x) : beginsZ b = false := decide_eq_false fun e => by
  obtain ⟨x, hx, hh⟩ := ext_iff.2 e
  exact h x hx hh
theorem endsT_B : ∀ x, x ∈ endsT → isB x := by
  intro x hx
  simp only [endsT, List.mem_cons, List.not_mem_nil, or_false] at hx
  unfold isB; omega
end Go.Proofs.YtiebaefhlacekaaGreatDoor.Am
end
section
/- Bytes that are fed: what comes of them, in plain terms; no program in sight. -/
set_option linter.unusedSimpArgs false
set_option linter.unusedVariables false
set_option maxRecDepth 20000
set_option maxHeartbeats 4000000
namespace Go.Proofs.YtiebaefhlacekaaGreatDoor.Am
open Go Go.RowKit Go.Proofs.Tryz
def vI (l : List Int) : List Value := l.map (Value.int .i32)
inductive Fed : List Int → List Int → List Int → Prop
  | done {b : List Int} (h : nextZ b = none) : Fed b [] b
  | step {b : List Int} {r : Int} {n : Nat} {l s : List Int} (h : nextZ b = some (r, n)) (t : Fed (b.drop n) l s) : Fed b (r :: l) s
theorem Fed.det {b l s : List Int} (H : Fed b l s) : ∀ {l' s' : List Int}, Fed b l' s' → l = l' ∧ s = s' := by
  induction H with
  | done h =>
    intro l' s' G
    cases G with
    | done g => exact ⟨rfl, rfl⟩
    | step g _ => rw [h] at g; cases g
  | step h t ih =>
    intro l' s' G
    cases G with
    | done g => rw [h] at g; cases g
    | step g u =>
      rw [h] at g
      simp only [Option.some.injEq, Prod.mk.injEq] at g
      obtain ⟨rfl, rfl⟩ := g
      obtain ⟨e1, e2⟩ := ih u
      exact ⟨by rw [e1], e2⟩
theorem Fed.app {a l s b : List Int} (H : Fed a l s) : ∀ {l' s' : List Int}, Fed (s ++ b) l' s' → Fed (a ++ b) (l ++ l') s' := by
  induction H with
  | done h => intro l' s' G; exact G
  | @step a r n l s h t ih =>
    intro l' s' G
    have hl := nextZ_le h
    refine .step (nextZ_app h) ?_
    rw [List.drop_append_of_le_length hl.2.1]
    exact ih G
theorem Fed.bound {b l s : List Int} (H : Fed b l s) : l.length + s.length ≤ b.length ∧ s.length ≤ 3 ∧ (∀ x, x ∈ s → x ∈ b) ∧ nextZ s = none := by
  induction H with
  | done h => exact ⟨by simp, (nextZ_none h).1, fun x hx => hx, h⟩
  | step h t ih =>
    have hl := nextZ_le h
    obtain ⟨h1, h2, h3, h4⟩ := ih
    simp only [List.length_drop, List.length_cons] at h1 ⊢
    exact ⟨by omega, h2, fun x hx => List.mem_of_mem_drop (h3 x hx), h4⟩
theorem Fed.enc {b l s : List Int} (H : Fed b l s) : ∀ a : List Int, Fed (encL a ++ b) (a.map fixR ++ l) s
  | [] => H
  | r :: a => by
    have h := nextZ_enc (fixR_valid (r := r)) (encL a ++ b)
    have e : encL (r :: a) ++ b = encV (fixR r) ++ (encL a ++ b) := by simp [encL, encR]
    rw [e]
    refine .step h ?_
    rw [List.drop_left]
    exact H.enc a
theorem nextZ_cont {x : Int} {t : List Int} (h0 : 128 ≤ x) (h1 : x ≤ 191) : nextZ (x :: t) = some (65533, 1) := by
  have : leadN x = 0 := by unfold leadN; rw [if_neg (by omega), if_pos (by omega)]
  simp [nextZ, this]
def Dec (b l : List Int) : Prop := ∃ l1 s, Fed b l1 s ∧ l = l1 ++ List.replicate s.length 65533
theorem Dec.det {b l l' : List Int} (H : Dec b l) (G : Dec b l') : l = l' := by
  obtain ⟨l1, s, H, rfl⟩ := H
  obtain ⟨l2, s2, G, rfl⟩ := G
  obtain ⟨rfl, rfl⟩ := H.det G
  rfl
theorem Dec.len {b l : List Int} (H : Dec b l) : l.length ≤ b.length := by
  obtain ⟨l1, s, H, rfl⟩ := H
  have := H.bound.1
  simp only [List.length_append, List.length_replicate]; omega
inductive RDec : List Int → List Int → Prop
  | nil : RDec [] []
  | step {b : List Int} {r : Int} {n : Nat} {l : List Int} (hne : b ≠ []) (h : (wholeZ b).getD (65533, 1) = (r, n)) (t : RDec (b.drop n) l) : RDec b (r :: l)
theorem RDec.det {b l : List Int} (H : RDec b l) : ∀ {l' : List Int}, RDec b l' → l = l' := by
  induction H with
  | nil =>
    intro l' G
    cases G with
    | nil => rfl
    | step h _ _ => exact absurd rfl h
  | step hne h t ih =>
    intro l' G
    cases G with
    | nil => exact absurd rfl hne
    | step _ g u =>
      rw [h] at g
      simp only [Prod.mk.injEq] at g
      obtain ⟨rfl, rfl⟩ := g
      rw [ih u]
theorem RDec.bad : ∀ {s : List Int}, (∀ x, x ∈ s → 128 ≤ x ∧ x ≤ 191) → RDec s (List.replicate s.length 65533)
  | [], _ => .nil
  | x :: s, h => by
    have hx := h x (by simp)
    refine .step (by simp) (n := 1) ?_ (RDec.bad (s := s) fun y hy => h y (by simp [hy]))
    simp [wholeZ, nextZ_cont hx.1 hx.2]
theorem RDec.none {s : List Int} (h : nextZ s = none) : RDec s (List.replicate s.length 65533) := by
  cases s with
  | nil => exact .nil
  | cons x s =>
    refine .step (by simp) (n := 1) ?_ (RDec.bad fun y hy => (nextZ_none h).2 y hy)
    simp [wholeZ, h]
theorem Fed.rdec {b l s : List Int} (H : Fed b l s) : RDec b (l ++ List.replicate s.length 65533) := by
  induction H with
  | done h => exact RDec.none h
  | @step b r n l s h t ih =>
    refine .step (n := n) ?_ ?_ ih
    · rintro rfl; simp [nextZ] at h
    · simp only [wholeZ, h]
      split
      · rename_i e; rw [e]; rfl
      · rfl
theorem Dec.rdec {b l : List Int} (H : Dec b l) : RDec b l := by
  obtain ⟨l1, s, H, rfl⟩ := H
  exact H.rdec
theorem Dec.enc {b l : List Int} (H : Dec b l) (a : List Int) : Dec (encL a ++ b) (a.map fixR ++ l) := by
  obtain ⟨l1, s, H, rfl⟩ := H
  exact ⟨_, s, H.enc a, by simp⟩
theorem Dec.nil : Dec [] [] := ⟨[], [], .done rfl, rfl⟩
theorem Dec.encAll (a : List Int) : Dec (encL a) (a.map fixR) := by simpa using Dec.enc Dec.nil a
end Go.Proofs.YtiebaefhlacekaaGreatDoor.Am
end
section
/- A feeder of bytes: contracts of utf.NewFeeder, Feed, Held, Flush and Decode, by walks. -/
set_option linter.unusedSimpArgs false
set_option linter.unusedVariables false
set_option maxRecDepth 20000
set_option maxHeartbeats 4000000
namespace Go.Proofs.YtiebaefhlacekaaGreatDoor.Am
open Go Go.RowKit Go.Proofs.Tryz
theorem vI_append {a b : List Int} : vI (a ++ b) = vI a ++ vI b := by simp [vI]
/-- A feeder and what it holds. -/
def FD (h : Heap) (f : Nat) (s : List Int) : Prop := ∃ rv, Var h f [rv] ∧ RdI prog h .u8 rv s
theorem FD.lt {h : Heap} {f : Nat} {s : List Int} (H : Wf h) (F : FD h f s) : f < h.size := by
  obtain ⟨rv, V, _⟩ := F
  exact V.lt H
theorem FD.keeps {h h' : Heap} {f : Nat} {s : List Int} (H : Wf h) (F : FD h f s) (K : Keeps h h') : FD h' f s := by
  obtain ⟨rv, V, R⟩ := F
  exact ⟨rv, Keeps.var H K V, R.keeps K⟩
theorem abuild_feeder : abuild prog 107 #[] = some (.agg #[.slice none 0 0]) := by
  simp [abuild, wt, aplaces, Instr.fill, Value.cells]
theorem newFeeder_ok {h : Heap} : ACalls prog 44 #[] h (fun v h' => v = .pointer (some ⟨h.size, 0, none⟩) ∧ h' = h.new 107 [.slice none 0 0]) := by
  refine acalls_of_W func44 rfl (by kernel_rfl) (by kernel_rfl) (by simp [ntmps44]) ?_
  have hb : ∀ {tm : Tm} {h : Heap} {i : Nat}, tm i = .agg #[.slice none 0 0] → aeff prog tm h (.box 107 (.tmp i)) = some (.pointer (some ⟨h.size, 0, none⟩), h.new 107 [.slice none 0 0]) := fun ht => box_new (by simp [ev, ht, Value.cells]) ⟨_, asz107⟩ (by simp only [ev, ht, Value.cells]; simp [one])
  simp only [wk, wt, wl, ↓reduceIte, Nat.reduceEqDiff, Nat.reduceAdd, Nat.zero_add, not_false_eq_true, not_true_eq_false, abuild_feeder]
  rw [hb (by simp only [wk, wt, wl, ↓reduceIte, Nat.reduceEqDiff, Nat.reduceAdd, Nat.zero_add, not_false_eq_true, not_true_eq_false])]
  simp only [wk, wt, wl, ↓reduceIte, Nat.reduceEqDiff, Nat.reduceAdd, Nat.zero_add, not_false_eq_true, not_true_eq_false]
theorem flushN_ok {f : Nat} {s : List Int} {h : Heap} (F : FD h f s) (hs : s.length ≤ 1000000000) :
    ACalls prog 46 #[.pointer (some ⟨f, 0, none⟩)] h (fun v h' => Own prog h.size h' 1 v s.length (vI (List.replicate s.length 65533)) ∧ (∀ y, blkOf v = some y → h.size ≤ y) ∧ Var h' f [.slice none 0 0] ∧ Ch (fun y => y = f) h h') := by
  refine acalls_of_W' func46 rfl (by kernel_rfl) (by kernel_rfl) (by simp [ntmps46]) ?_
  intro H
  have hf := F.lt H
  obtain ⟨rv, V, R⟩ := F
  have W0 := V.load1 (P := prog) (t := 32) underlying32 rfl (i := 0)
  simp only [List.getElem?_cons_zero] at W0
  simp only [wk, wt, wl, ↓reduceIte, Nat.reduceEqDiff, Nat.reduceAdd, Nat.zero_add, not_false_eq_true, not_true_eq_false, ptr_some (P := prog) underlying88, W0, RdI.len R underlying32]
  refine W_loop (fun tm h' => Keeps h h' ∧ tm 0 = .pointer (some ⟨f, 0, none⟩) ∧ tm 10 = .int .i64 s.length ∧ ∃ (i : Nat) (v : Value), tm 11 = .int .i64 i ∧ tm 3 = v ∧ i ≤ s.length ∧ Own prog h.size h' 1 v i (vI (List.replicate i 65533)) ∧ ∀ y, blkOf v = some y → h.size ≤ y) (fun tm _ => (s.length - intOf (tm 11)).toNat)
    ⟨Keeps.refl H, (by first | rfl | (simp only [wk, wt, wl, ↓reduceIte, Nat.reduceEqDiff, Nat.reduceAdd, Nat.zero_add, not_false_eq_true, not_true_eq_false]; done) | (simp only [wk, wt, wl, ↓reduceIte, Nat.reduceEqDiff, Nat.reduceAdd, Nat.zero_add, not_false_eq_true, not_true_eq_false]; rfl)), (by first | rfl | (simp only [wk, wt, wl, ↓reduceIte, Nat.reduceEqDiff, Nat.reduceAdd, Nat.zero_add, not_false_eq_true, not_true_eq_false]; done) | (simp only [wk, wt, wl, ↓reduceIte, Nat.reduceEqDiff, Nat.reduceAdd, Nat.zero_add, not_false_eq_true, not_true_eq_false]; rfl)), 0, .slice none 0 0, (by first | rfl | (simp only [wk, wt, wl, ↓reduceIte, Nat.reduceEqDiff, Nat.reduceAdd, Nat.zero_add, not_false_eq_true, not_true_eq_false]; done) | (simp only [wk, wt, wl, ↓reduceIte, Nat.reduceEqDiff, Nat.reduceAdd, Nat.zero_add, not_false_eq_true, not_true_eq_false]; rfl)), (by first | rfl | (simp only [wk, wt, wl, ↓reduceIte, Nat.reduceEqDiff, Nat.reduceAdd, Nat.zero_add, not_false_eq_true, not_true_eq_false]; done) | (simp only [wk, wt, wl, ↓reduceIte, Nat.reduceEqDiff, Nat.reduceAdd, Nat.zero_add, not_false_eq_true, not_true_eq_false]; rfl)), by omega, by simpa [vI] using Own.nil0, fun y hy => by cases hy⟩ ?_
  rintro tm h' ⟨K, t0, t10, i, v, t11, t3, hi, O, hb⟩
  simp only [wk, wt, wl, ↓reduceIte, Nat.reduceEqDiff, Nat.reduceAdd, Nat.zero_add, not_false_eq_true, not_true_eq_false, t0, t10, t11, t3]
  refine condK_dec (fun hd => ?_) (fun hd => ?_)
  · simp only [wk, wt, wl, ↓reduceIte, Nat.reduceEqDiff, Nat.reduceAdd, Nat.zero_add, not_false_eq_true, not_true_eq_false, t0, t10, t11, t3]
    obtain ⟨v2, h2, e2, O2, C2, R2, ev, _⟩ := O.append1 (P := prog) (Ch.wf K) (Ch.le K) underlying59 elem21 fits21 (by decide) (by decide) (xs := [.int .i32 65533]) rfl (by omega)
    rw [e2]; clear e2
    have K2 := K.step C2 fun b hb => hb.2
    simp (disch := omega) only [wk, wt, wl, ↓reduceIte, Nat.reduceEqDiff, Nat.reduceAdd, Nat.zero_add, not_false_eq_true, not_true_eq_false, t0, t10, t11, IntWalk.i64_in, intOf_int]
    refine ⟨⟨K2, i + 1, v2, by simp, rfl, by omega, ?_, fun y hy => ?_⟩, by omega⟩
    · rw [List.replicate_succ', vI_append]; exact O2
    · rw [ev] at hy; simp only [blkOf, Option.some.injEq] at hy; have := Ch.le K; omega
  · obtain rfl : i = s.length := by omega
    have V2 := Keeps.var H K V
    simp only [wk, wt, wl, ↓reduceIte, Nat.reduceEqDiff, Nat.reduceAdd, Nat.zero_add, not_false_eq_true, not_true_eq_false, t0, t3]
    obtain ⟨h3, e3, V3, C3, z3⟩ := V2.store1 (P := prog) (t := 32) (v := .slice none 0 0) (i := 0) (Ch.wf K) asz32 (by simp) rfl
    rw [e3]; clear e3
    simp only [wk, wt, wl, ↓reduceIte, Nat.reduceEqDiff, Nat.reduceAdd, Nat.zero_add, not_false_eq_true, not_true_eq_false, t3]
    have C := K.ch C3 fun b hb => by omega
    exact ⟨Ch.own C3 O fun b hb' e => by have := hb b hb'; omega, hb, V3, C⟩
theorem flush_ok {f : Nat} {s : List Int} {h : Heap} (F : FD h f s) (hs : s.length ≤ 1000000000) :
    ACalls prog 46 #[.pointer (some ⟨f, 0, none⟩)] h (fun v h' => Own prog h.size h' 1 v s.length (vI (List.replicate s.length 65533)) ∧ (∀ y, blkOf v = some y → h.size ≤ y) ∧ FD h' f [] ∧ Ch (fun y => y = f) h h') :=
  (flushN_ok F hs).mono fun v h' ⟨h1, h2, h3, h4⟩ => ⟨h1, h2, ⟨_, h3, Rd.nil0⟩, h4⟩
theorem feedN_ok {f : Nat} {s b : List Int} {bv : Value} {h : Heap} (F : FD h f s) (hB : RdI prog h .u8 bv b) (hsB : ∀ x, x ∈ s → isB x) (hbB : ∀ x, x ∈ b → isB x) (hs : s.length ≤ 1000) (hb : b.length ≤ 900000000) :
    ACalls prog 45 #[.pointer (some ⟨f, 0, none⟩), bv] h (fun v h' => ∃ l s' rv', Fed (s ++ b) l s' ∧ Own prog h.size h' 1 v l.length (vI l) ∧ (∀ y, blkOf v = some y → h.size ≤ y) ∧ Var h' f [rv'] ∧ RdI prog h' .u8 rv' s' ∧ (∀ y, blkOf rv' = some y → h.size ≤ y) ∧ Ch (fun y => y = f) h h') := by
  refine acalls_of_W' func45 rfl (by kernel_rfl) (by kernel_rfl) (by simp [ntmps45]) ?_
  intro H
  have hf := F.lt H
  obtain ⟨rv, V, R⟩ := F
  have W0 := V.load1 (P := prog) (t := 32) underlying32 rfl (i := 0)
  simp only [List.getElem?_cons_zero] at W0
  simp only [wk, wt, wl, ↓reduceIte, Nat.reduceEqDiff, Nat.reduceAdd, Nat.zero_add, not_false_eq_true, not_true_eq_false, ptr_some (P := prog) underlying88, W0, RdI.len R underlying32]
  refine condK_dec (fun hc => ?_) (fun hc => ?_)
  · simp only [wk, wt, wl, ↓reduceIte, Nat.reduceEqDiff, Nat.reduceAdd, Nat.zero_add, not_false_eq_true, not_true_eq_false, build0 (P := prog) (t := 32) underlying32 asz5]
    have N1 := Keeps.new H 5 []
    have O1 : Own prog h.size (h.new 5 []) 1 (.slice (some ⟨h.size, 0, none⟩) 0 1) 0 [] := Own.new H (Nat.le_refl _) asz5 rfl
    have V1 := Keeps.var H N1 V
    have W1 := V1.load1 (P := prog) (t := 32) underlying32 rfl (i := 0)
    simp only [List.getElem?_cons_zero] at W1
    simp only [wk, wt, wl, ↓reduceIte, Nat.reduceEqDiff, Nat.reduceAdd, Nat.zero_add, not_false_eq_true, not_true_eq_false, W1]
    obtain ⟨v2, h2, e2, O2, R2, C2, _⟩ := O1.appendRd (P := prog) (Ch.wf N1) (Ch.le N1) underlying32 underlying32 rfl elem5 fits5 (by decide) (R.keeps N1) (by omega)
    rw [e2]; clear e2
    have N2 := N1.step C2 fun b hb => hb.2
    simp only [wk, wt, wl, ↓reduceIte, Nat.reduceEqDiff, Nat.reduceAdd, Nat.zero_add, not_false_eq_true, not_true_eq_false]
    obtain ⟨av, h3, e3, O3, R3, C3, _⟩ := O2.appendRd (P := prog) (Ch.wf N2) (Ch.le N2) underlying32 underlying32 rfl elem5 fits5 (by decide) (hB.keeps N2) (by omega)
    rw [e3]; clear e3
    have N3 := N2.step C3 fun b hb => hb.2
    have RA0 : RdI prog h3 .u8 av (s ++ b) := by
      have := O3.1
      simpa [RdI] using this
    clear O1 O2 O3 R2 R3 C2 C3 N1 N2 V1 W1
    simp only [wk, wt, wl, ↓reduceIte, Nat.reduceEqDiff, Nat.reduceAdd, Nat.zero_add, not_false_eq_true, not_true_eq_false]
    have hallB : ∀ x, x ∈ s ++ b → isB x := fun x hx => (List.mem_append.1 hx).elim (hsB x) (hbB x)
    have hallL : (s ++ b).length ≤ 1000000000 := by simp only [List.length_append]; omega
    refine W_loop (fun tm h' => Keeps h h' ∧ tm 0 = .pointer (some ⟨f, 0, none⟩) ∧ tm 5 = av ∧ RdI prog h' .u8 (av) (s ++ b) ∧ ∃ (i : Nat) (v : Value) (l : List Int), tm 7 = .int .i64 i ∧ tm 6 = v ∧ i ≤ (s ++ b).length ∧ l.length ≤ i ∧ Own prog h.size h' 1 v l.length (vI l) ∧ (∀ y, blkOf v = some y → h.size ≤ y) ∧ ∀ l' s', Fed ((s ++ b).drop i) l' s' → Fed (s ++ b) (l ++ l') s') (fun tm _ => ((s ++ b).length - intOf (tm 7)).toNat)
      ⟨N3, (by first | rfl | (simp only [wk, wt, wl, ↓reduceIte, Nat.reduceEqDiff, Nat.reduceAdd, Nat.zero_add, not_false_eq_true, not_true_eq_false]; done) | (simp only [wk, wt, wl, ↓reduceIte, Nat.reduceEqDiff, Nat.reduceAdd, Nat.zero_add, not_false_eq_true, not_true_eq_false]; rfl)), (by first | rfl | (simp only [wk, wt, wl, ↓reduceIte, Nat.reduceEqDiff, Nat.reduceAdd, Nat.zero_add, not_false_eq_true, not_true_eq_false]; done) | (simp only [wk, wt, wl, ↓reduceIte, Nat.reduceEqDiff, Nat.reduceAdd, Nat.zero_add, not_false_eq_true, not_true_eq_false]; rfl)), RA0, 0, .slice none 0 0, [], (by first | rfl | (simp only [wk, wt, wl, ↓reduceIte, Nat.reduceEqDiff, Nat.reduceAdd, Nat.zero_add, not_false_eq_true, not_true_eq_false]; done) | (simp only [wk, wt, wl, ↓reduceIte, Nat.reduceEqDiff, Nat.reduceAdd, Nat.zero_add, not_false_eq_true, not_true_eq_false]; rfl)), (by first | rfl | (simp only [wk, wt, wl, ↓reduceIte, Nat.reduceEqDiff, Nat.reduceAdd, Nat.zero_add, not_false_eq_true, not_true_eq_false]; done) | (simp only [wk, wt, wl, ↓reduceIte, Nat.reduceEqDiff, Nat.reduceAdd, Nat.zero_add, not_false_eq_true, not_true_eq_false]; rfl)), by omega, by simp, by simpa [vI] using Own.nil0, (fun y hy => by cases hy), fun l' s' g => by simpa using g⟩ ?_
    rintro tm h' ⟨K, t0, t5, RA, i, v, l, t7, t6, hi, hli, O, hv, hfed⟩
    have RL := RA.partLo hi
    have hdB : ∀ x, x ∈ (s ++ b).drop i → isB x := fun x hx => hallB x (List.mem_of_mem_drop hx)
    simp (disch := omega) only [wk, wt, wl, ↓reduceIte, Nat.reduceEqDiff, Nat.reduceAdd, Nat.zero_add, not_false_eq_true, not_true_eq_false, t0, t5, t6, t7, Rd.sliceLo RA underlying32 asz5 (q := .i64) (i := (i : Int)), Int.toNat_natCast]
    refine (next_ok RL hdB (by rw [List.length_drop]; omega)).use_pure ?_
    cases hn : nextZ ((s ++ b).drop i) with
    | some p =>
      obtain ⟨r, n⟩ := p
      have hl := nextZ_le hn
      rw [List.length_drop] at hl
      simp only [nextT, hn]
      simp only [wk, wt, wl, ↓reduceIte, Nat.reduceEqDiff, Nat.reduceAdd, Nat.zero_add, not_false_eq_true, not_true_eq_false, t0, t5, t6, t7]
      obtain ⟨v2, h2, e2, O2, C2, R2, ev, _⟩ := O.append1 (P := prog) (Ch.wf K) (Ch.le K) underlying59 elem21 fits21 (by decide) (by decide) (xs := [.int .i32 r]) rfl (by omega)
      rw [e2]; clear e2
      have K2 := K.step C2 fun b hb => hb.2
      have RA2 := Rd.reads RA C2.le R2
      simp (disch := omega) only [wk, wt, wl, ↓reduceIte, Nat.reduceEqDiff, Nat.reduceAdd, Nat.zero_add, not_false_eq_true, not_true_eq_false, t0, t5, t7, IntWalk.i64_in, intOf_int]
      refine ⟨⟨K2, RA2, i + n, v2, l ++ [r], by simp, rfl, by omega, by simp only [List.length_append, List.length_singleton]; omega, ?_, fun y hy => ?_, fun l' s' g => ?_⟩, by omega⟩
      · rw [vI_append, List.length_append]; exact O2
      · rw [ev] at hy; simp only [blkOf, Option.some.injEq] at hy; have := Ch.le K; omega
      · rw [List.append_assoc]; exact hfed _ _ (.step hn (by rw [List.drop_drop]; exact g))
    | none =>
      have hfin : Fed (s ++ b) l ((s ++ b).drop i) := by simpa using hfed _ _ (.done hn)
      simp only [nextT, hn]
      simp (disch := omega) only [wk, wt, wl, ↓reduceIte, Nat.reduceEqDiff, Nat.reduceAdd, Nat.zero_add, not_false_eq_true, not_true_eq_false, t0, t5, t6, t7, build0 (P := prog) (t := 32) underlying32 asz5]
      have N1 := Keeps.new (Ch.wf K) 5 []
      have RA1 := RA.keeps N1
      have O1 : Own prog h'.size (h'.new 5 []) 1 (.slice (some ⟨h'.size, 0, none⟩) 0 1) 0 [] := Own.new (Ch.wf K) (Nat.le_refl _) asz5 rfl
      have RL1 := RL.keeps N1
      simp (disch := omega) only [wk, wt, wl, ↓reduceIte, Nat.reduceEqDiff, Nat.reduceAdd, Nat.zero_add, not_false_eq_true, not_true_eq_false, Rd.sliceLo RA1 underlying32 asz5 (q := .i64) (i := (i : Int)), Int.toNat_natCast]
      obtain ⟨v2, h2, e2, O2, R2, C2, hv2⟩ := O1.appendRd (P := prog) (Ch.wf N1) (Ch.le N1) underlying32 underlying32 rfl elem5 fits5 (by decide) RL1 (by rw [List.length_drop]; omega)
      have hb2 : ∀ y, blkOf v2 = some y → h.size ≤ y := fun y hy => by
        have l1 := Ch.le N1
        have l2 := Ch.le K
        rcases hv2 with e | e | e
        · rw [e] at hy; simp only [blkOf, Option.some.injEq] at hy; omega
        · rw [e] at hy; cases hy
        · rw [e] at hy; simp only [blkOf, Option.some.injEq] at hy; omega
      rw [e2]; clear e2
      have N2 := N1.step C2 fun b hb => hb.2
      have K2 := K.trans N2
      have V2 := Keeps.var H K2 V
      have hrv : RdI prog h2 .u8 v2 ((s ++ b).drop i) := by
        have := O2.1
        simpa [RdI] using this
      simp only [wk, wt, wl, ↓reduceIte, Nat.reduceEqDiff, Nat.reduceAdd, Nat.zero_add, not_false_eq_true, not_true_eq_false, t0]
      obtain ⟨h3, e3, V3, C3, z3⟩ := V2.store1 (P := prog) (t := 32) (v := v2) (i := 0) (Ch.wf K2) asz32 (by simp) hrv.one
      rw [e3]; clear e3
      simp only [wk, wt, wl, ↓reduceIte, Nat.reduceEqDiff, Nat.reduceAdd, Nat.zero_add, not_false_eq_true, not_true_eq_false, t6]
      have C := K2.ch C3 fun b hb => by omega
      have O6 := O.keeps N2
      refine ⟨l, (s ++ b).drop i, v2, hfin, Ch.own C3 O6 fun b hb' e => by have := hv b hb'; omega, hv, V3, Ch.rd C3 hrv fun y hy e => ?_, hb2, C⟩
      have := hb2 y hy; omega
  · have hs0 : s = [] := List.eq_nil_of_length_eq_zero (by omega)
    have RA0 : RdI prog h .u8 bv (s ++ b) := by rw [hs0]; exact hB
    simp only [wk, wt, wl, ↓reduceIte, Nat.reduceEqDiff, Nat.reduceAdd, Nat.zero_add, not_false_eq_true, not_true_eq_false]
    have hallB : ∀ x, x ∈ s ++ b → isB x := fun x hx => (List.mem_append.1 hx).elim (hsB x) (hbB x)
    have hallL : (s ++ b).length ≤ 1000000000 := by simp only [List.length_append]; omega
    refine W_loop (fun tm h' => Keeps h h' ∧ tm 0 = .pointer (some ⟨f, 0, none⟩) ∧ tm 5 = bv ∧ RdI prog h' .u8 (bv) (s ++ b) ∧ ∃ (i : Nat) (v : Value) (l : List Int), tm 7 = .int .i64 i ∧ tm 6 = v ∧ i ≤ (s ++ b).length ∧ l.length ≤ i ∧ Own prog h.size h' 1 v l.length (vI l) ∧ (∀ y, blkOf v = some y → h.size ≤ y) ∧ ∀ l' s', Fed ((s ++ b).drop i) l' s' → Fed (s ++ b) (l ++ l') s') (fun tm _ => ((s ++ b).length - intOf (tm 7)).toNat)
      ⟨Keeps.refl H, (by first | rfl | (simp only [wk, wt, wl, ↓reduceIte, Nat.reduceEqDiff, Nat.reduceAdd, Nat.zero_add, not_false_eq_true, not_true_eq_false]; done) | (simp only [wk, wt, wl, ↓reduceIte, Nat.reduceEqDiff, Nat.reduceAdd, Nat.zero_add, not_false_eq_true, not_true_eq_false]; rfl)), (by first | rfl | (simp only [wk, wt, wl, ↓reduceIte, Nat.reduceEqDiff, Nat.reduceAdd, Nat.zero_add, not_false_eq_true, not_true_eq_false]; done) | (simp only [wk, wt, wl, ↓reduceIte, Nat.reduceEqDiff, Nat.reduceAdd, Nat.zero_add, not_false_eq_true, not_true_eq_false]; rfl)), RA0, 0, .slice none 0 0, [], (by first | rfl | (simp only [wk, wt, wl, ↓reduceIte, Nat.reduceEqDiff, Nat.reduceAdd, Nat.zero_add, not_false_eq_true, not_true_eq_false]; done) | (simp only [wk, wt, wl, ↓reduceIte, Nat.reduceEqDiff, Nat.reduceAdd, Nat.zero_add, not_false_eq_true, not_true_eq_false]; rfl)), (by first | rfl | (simp only [wk, wt, wl, ↓reduceIte, Nat.reduceEqDiff, Nat.reduceAdd, Nat.zero_add, not_false_eq_true, not_true_eq_false]; done) | (simp only [wk, wt, wl, ↓reduceIte, Nat.reduceEqDiff, Nat.reduceAdd, Nat.zero_add, not_false_eq_true, not_true_eq_false]; rfl)), by omega, by simp, by simpa [vI] using Own.nil0, (fun y hy => by cases hy), fun l' s' g => by simpa using g⟩ ?_
    rintro tm h' ⟨K, t0, t5, RA, i, v, l, t7, t6, hi, hli, O, hv, hfed⟩
    have RL := RA.partLo hi
    have hdB : ∀ x, x ∈ (s ++ b).drop i → isB x := fun x hx => hallB x (List.mem_of_mem_drop hx)
    simp (disch := omega) only [wk, wt, wl, ↓reduceIte, Nat.reduceEqDiff, Nat.reduceAdd, Nat.zero_add, not_false_eq_true, not_true_eq_false, t0, t5, t6, t7, Rd.sliceLo RA underlying32 asz5 (q := .i64) (i := (i : Int)), Int.toNat_natCast]
    refine (next_ok RL hdB (by rw [List.length_drop]; omega)).use_pure ?_
    cases hn : nextZ ((s ++ b).drop i) with
    | some p =>
      obtain ⟨r, n⟩ := p
      have hl := nextZ_le hn
      rw [List.length_drop] at hl
      simp only [nextT, hn]
      simp only [wk, wt, wl, ↓reduceIte, Nat.reduceEqDiff, Nat.reduceAdd, Nat.zero_add, not_false_eq_true, not_true_eq_false, t0, t5, t6, t7]
      obtain ⟨v2, h2, e2, O2, C2, R2, ev, _⟩ := O.append1 (P := prog) (Ch.wf K) (Ch.le K) underlying59 elem21 fits21 (by decide) (by decide) (xs := [.int .i32 r]) rfl (by omega)
      rw [e2]; clear e2
      have K2 := K.step C2 fun b hb => hb.2
      have RA2 := Rd.reads RA C2.le R2
      simp (disch := omega) only [wk, wt, wl, ↓reduceIte, Nat.reduceEqDiff, Nat.reduceAdd, Nat.zero_add, not_false_eq_true, not_true_eq_false, t0, t5, t7, IntWalk.i64_in, intOf_int]
      refine ⟨⟨K2, RA2, i + n, v2, l ++ [r], by simp, rfl, by omega, by simp only [List.length_append, List.length_singleton]; omega, ?_, fun y hy => ?_, fun l' s' g => ?_⟩, by omega⟩
      · rw [vI_append, List.length_append]; exact O2
      · rw [ev] at hy; simp only [blkOf, Option.some.injEq] at hy; have := Ch.le K; omega
      · rw [List.append_assoc]; exact hfed _ _ (.step hn (by rw [List.drop_drop]; exact g))
    | none =>
      have hfin : Fed (s ++ b) l ((s ++ b).drop i) := by simpa using hfed _ _ (.done hn)
      simp only [nextT, hn]
      simp (disch := omega) only [wk, wt, wl, ↓reduceIte, Nat.reduceEqDiff, Nat.reduceAdd, Nat.zero_add, not_false_eq_true, not_true_eq_false, t0, t5, t6, t7, build0 (P := prog) (t := 32) underlying32 asz5]
      have N1 := Keeps.new (Ch.wf K) 5 []
      have RA1 := RA.keeps N1
      have O1 : Own prog h'.size (h'.new 5 []) 1 (.slice (some ⟨h'.size, 0, none⟩) 0 1) 0 [] := Own.new (Ch.wf K) (Nat.le_refl _) asz5 rfl
      have RL1 := RL.keeps N1
      simp (disch := omega) only [wk, wt, wl, ↓reduceIte, Nat.reduceEqDiff, Nat.reduceAdd, Nat.zero_add, not_false_eq_true, not_true_eq_false, Rd.sliceLo RA1 underlying32 asz5 (q := .i64) (i := (i : Int)), Int.toNat_natCast]
      obtain ⟨v2, h2, e2, O2, R2, C2, hv2⟩ := O1.appendRd (P := prog) (Ch.wf N1) (Ch.le N1) underlying32 underlying32 rfl elem5 fits5 (by decide) RL1 (by rw [List.length_drop]; omega)
      have hb2 : ∀ y, blkOf v2 = some y → h.size ≤ y := fun y hy => by
        have l1 := Ch.le N1
        have l2 := Ch.le K
        rcases hv2 with e | e | e
        · rw [e] at hy; simp only [blkOf, Option.some.injEq] at hy; omega
        · rw [e] at hy; cases hy
        · rw [e] at hy; simp only [blkOf, Option.some.injEq] at hy; omega
      rw [e2]; clear e2
      have N2 := N1.step C2 fun b hb => hb.2
      have K2 := K.trans N2
      have V2 := Keeps.var H K2 V
      have hrv : RdI prog h2 .u8 v2 ((s ++ b).drop i) := by
        have := O2.1
        simpa [RdI] using this
      simp only [wk, wt, wl, ↓reduceIte, Nat.reduceEqDiff, Nat.reduceAdd, Nat.zero_add, not_false_eq_true, not_true_eq_false, t0]
      obtain ⟨h3, e3, V3, C3, z3⟩ := V2.store1 (P := prog) (t := 32) (v := v2) (i := 0) (Ch.wf K2) asz32 (by simp) hrv.one
      rw [e3]; clear e3
      simp only [wk, wt, wl, ↓reduceIte, Nat.reduceEqDiff, Nat.reduceAdd, Nat.zero_add, not_false_eq_true, not_true_eq_false, t6]
      have C := K2.ch C3 fun b hb => by omega
      have O6 := O.keeps N2
      refine ⟨l, (s ++ b).drop i, v2, hfin, Ch.own C3 O6 fun b hb' e => by have := hv b hb'; omega, hv, V3, Ch.rd C3 hrv fun y hy e => ?_, hb2, C⟩
      have := hb2 y hy; omega
theorem feed_ok {f : Nat} {s b : List Int} {bv : Value} {h : Heap} (F : FD h f s) (hB : RdI prog h .u8 bv b) (hsB : ∀ x, x ∈ s → isB x) (hbB : ∀ x, x ∈ b → isB x) (hs : s.length ≤ 1000) (hb : b.length ≤ 900000000) :
    ACalls prog 45 #[.pointer (some ⟨f, 0, none⟩), bv] h (fun v h' => ∃ l s', Fed (s ++ b) l s' ∧ Own prog h.size h' 1 v l.length (vI l) ∧ (∀ y, blkOf v = some y → h.size ≤ y) ∧ FD h' f s' ∧ Ch (fun y => y = f) h h') :=
  (feedN_ok F hB hsB hbB hs hb).mono fun v h' ⟨l, s', rv, h1, h2, h3, h4, h5, _, h7⟩ => ⟨l, s', h1, h2, h3, ⟨rv, h4, h5⟩, h7⟩
theorem decode_ok {b : List Int} {bv : Value} {h : Heap} (hB : RdI prog h .u8 bv b) (hbB : ∀ x, x ∈ b → isB x) (hb : b.length ≤ 900000000) :
    ACalls prog 31 #[bv] h (fun v h' => ∃ l, Dec b l ∧ Own prog h.size h' 1 v l.length (vI l) ∧ (∀ y, blkOf v = some y → h.size ≤ y) ∧ Keeps h h') := by
  refine acalls_of_W' func31 rfl (by kernel_rfl) (by kernel_rfl) (by simp [ntmps31]) ?_
  intro H
  simp only [wk, wt, wl, ↓reduceIte, Nat.reduceEqDiff, Nat.reduceAdd, Nat.zero_add, not_false_eq_true, not_true_eq_false]
  refine newFeeder_ok.use_pure ?_
  have N1 := Keeps.new H 107 [.slice none 0 0]
  have F1 : FD (h.new 107 [.slice none 0 0]) h.size [] := ⟨_, Var.new H, Rd.nil0⟩
  simp only [wk, wt, wl, ↓reduceIte, Nat.reduceEqDiff, Nat.reduceAdd, Nat.zero_add, not_false_eq_true, not_true_eq_false]
  refine (feed_ok F1 (hB.keeps N1) (fun x hx => by cases hx) hbB (by simp) hb).use ?_
  rintro v2 h2 ⟨l, s, hfed, O2, hv2, F2, C2⟩
  have K2 := N1.step C2 fun y e => by omega
  have hbd := hfed.bound
  simp only [List.nil_append] at hfed hbd
  have l1 := Ch.le N1
  have z1 : (h.new 107 [Value.slice none 0 0]).size = h.size + 1 := rfl
  simp only [wk, wt, wl, ↓reduceIte, Nat.reduceEqDiff, Nat.reduceAdd, Nat.zero_add, not_false_eq_true, not_true_eq_false]
  refine (flush_ok F2 (by omega)).use ?_
  rintro v3 h3 ⟨O3, hv3, F3, C3⟩
  have K3 := K2.step C3 fun y e => by omega
  have O2' := (Ch.own C3 O2 fun y hy e => by have := hv2 y hy; omega).base (B' := h.size) (by omega)
  simp only [wk, wt, wl, ↓reduceIte, Nat.reduceEqDiff, Nat.reduceAdd, Nat.zero_add, not_false_eq_true, not_true_eq_false]
  obtain ⟨v4, h4, e4, O4, R4, C4, hv4⟩ := O2'.appendRd (P := prog) (Ch.wf K3) (Ch.le K3) underlying59 underlying59 rfl elem21 fits21 (by decide) O3.1 (by omega)
  rw [e4]; clear e4
  have K4 := K3.step C4 fun y hy => hy.2
  simp only [wk, wt, wl, ↓reduceIte, Nat.reduceEqDiff, Nat.reduceAdd, Nat.zero_add, not_false_eq_true, not_true_eq_false]
  refine ⟨l ++ List.replicate s.length 65533, ⟨l, s, hfed, rfl⟩, ?_, fun y hy => ?_, K4⟩
  · rw [List.length_append, List.length_replicate, vI_append]; exact O4
  · rcases hv4 with e | e | e
    · rw [e] at hy; have := hv2 y hy; omega
    · rw [e] at hy; cases hy
    · rw [e] at hy; simp only [blkOf, Option.some.injEq] at hy; have := Ch.le K3; omega
end Go.Proofs.YtiebaefhlacekaaGreatDoor.Am
end
section
/- The document's Decode, bytes as text, the examples of the first chapter: contracts, by walks. -/
set_option linter.unusedSimpArgs false
set_option linter.unusedVariables false
set_option maxHeartbeats 4000000
set_option maxRecDepth 20000
namespace Go.Proofs.YtiebaefhlacekaaGreatDoor.Am
open Go Go.RowKit Go.Proofs.Tryz
theorem anums_map : ∀ b : List Int, anums (b.map (Value.int .u8)) = some b
  | [] => rfl
  | x :: b => by simp [anums, anums_map b]
theorem conv_str {h : Heap} {v : Value} {b : List Int} (R : RdI prog h .u8 v b) : aconv prog h 32 9 v = some (.string (strOfNums b)) := by
  obtain ⟨hl, h3⟩ := R
  rcases h3 with ⟨h0, rfl | rfl⟩ | ⟨b', o, c, k, rfl, hb, hk, hlv, ha, ho, hc⟩
  · have : b = [] := List.eq_nil_of_length_eq_zero h0
    subst this
    simp [aconv, underlying32, underlying9, underlying5, isU8]; rfl
  · have : b = [] := List.eq_nil_of_length_eq_zero h0
    subst this
    simp [aconv, underlying32, underlying9, underlying5, isU8]; rfl
  · simp only [Nat.mul_one] at ho hc
    simp only [aconv, underlying32, underlying9, underlying5, isU8, hk, hlv, ho, and_self, if_true, hc, anums_map]
theorem refDecode_ok {b : List Int} {bv : Value} {h : Heap} (hB : RdI prog h .u8 bv b) (hbB : ∀ x, x ∈ b → isB x) (hb : b.length ≤ 900000000) :
    ACalls prog 47 #[bv] h (fun v h' => ∃ l, RDec b l ∧ RdI prog h' .i32 v l ∧ l.length ≤ b.length ∧ Keeps h h') := by
  refine acalls_of_W' func47 rfl (by kernel_rfl) (by kernel_rfl) (by simp [ntmps47]) ?_
  intro H
  simp only [wk, wt, wl, ↓reduceIte, Nat.reduceEqDiff, Nat.reduceAdd, Nat.zero_add, not_false_eq_true, not_true_eq_false]
  refine W_loop (fun tm h' => Keeps h h' ∧ ∃ (cv v : Value) (cur l : List Int), tm 0 = cv ∧ tm 3 = v ∧ RdI prog h' .u8 cv cur ∧ (∀ x, x ∈ cur → isB x) ∧ l.length + cur.length ≤ b.length ∧ Own prog h.size h' 1 v l.length (vI l) ∧ (∀ l', RDec cur l' → RDec b (l ++ l')) ∧ abuiltin prog .len #[32] #[tm 0] = some (.int .i64 cur.length)) (fun tm _ => match abuiltin prog .len #[32] #[tm 0] with | some (.int _ n) => n.toNat | _ => 0)
    ⟨Keeps.refl H, bv, .slice none 0 0, b, [], (by first | rfl | (simp only [wk, wt, wl, ↓reduceIte, Nat.reduceEqDiff, Nat.reduceAdd, Nat.zero_add, not_false_eq_true, not_true_eq_false]; done) | (simp only [wk, wt, wl, ↓reduceIte, Nat.reduceEqDiff, Nat.reduceAdd, Nat.zero_add, not_false_eq_true, not_true_eq_false]; rfl)), (by first | rfl | (simp only [wk, wt, wl, ↓reduceIte, Nat.reduceEqDiff, Nat.reduceAdd, Nat.zero_add, not_false_eq_true, not_true_eq_false]; done) | (simp only [wk, wt, wl, ↓reduceIte, Nat.reduceEqDiff, Nat.reduceAdd, Nat.zero_add, not_false_eq_true, not_true_eq_false]; rfl)), hB, hbB, by simp, by simpa [vI] using Own.nil0, fun l' g => g, by simp only [wk, wt, wl, ↓reduceIte, Nat.reduceEqDiff, Nat.reduceAdd, Nat.zero_add, not_false_eq_true, not_true_eq_false, RdI.len hB underlying32]⟩ ?_
  rintro tm h' ⟨K, cv, v, cur, l, t0, t3, R, hcB, hlen, O, hdec, hmeas⟩
  simp only [wk, wt, wl, ↓reduceIte, Nat.reduceEqDiff, Nat.reduceAdd, Nat.zero_add, not_false_eq_true, not_true_eq_false, t0, t3, RdI.len R underlying32]
  have tail : ∀ (r : Int) (n : Nat), 1 ≤ n → n ≤ cur.length → (wholeZ cur).getD (65533, 1) = (r, n) → cur ≠ [] → (∀ l', RDec (cur.drop n) l' → RDec b ((l ++ [r]) ++ l')) := fun r n h1 h2 e hne l' g => by
    rw [List.append_assoc]; exact hdec _ (.step hne e g)
  refine condK_dec (fun hd => ?_) (fun hd => ?_)
  · have hne : cur ≠ [] := by rintro rfl; simp at hd
    have hpos : 0 < cur.length := by omega
    simp only [wk, wt, wl, ↓reduceIte, Nat.reduceEqDiff, Nat.reduceAdd, Nat.zero_add, not_false_eq_true, not_true_eq_false, t0, t3]
    refine (whole_ok R hcB (by omega)).use ?_
    rintro _ h2 ⟨rfl, K2⟩
    have R2 := R.keeps K2
    have O2 := O.keeps K2
    have KK := K.trans K2
    cases hw : wholeZ cur with
    | some p =>
      obtain ⟨r, n⟩ := p
      obtain ⟨g1, g2, g3, _, _⟩ := whole_cases hcB hw
      simp only [wholeT, hw]
      simp only [wk, wt, wl, ↓reduceIte, Nat.reduceEqDiff, Nat.reduceAdd, Nat.zero_add, not_false_eq_true, not_true_eq_false, t0, t3, Bool.not_true]
      obtain ⟨v4, h4, e4, O4, C4, R4, _⟩ := O2.append1 (P := prog) (Ch.wf KK) (Ch.le KK) underlying59 elem21 fits21 (by decide) (by decide) (xs := [.int .i32 r]) rfl (by omega)
      rw [e4]; clear e4
      have K4 := KK.step C4 fun b hb => hb.2
      have R5 := Rd.reads R2 C4.le R4
      have P5 := RdI.partLo R5 g3
      simp (disch := omega) only [wk, wt, wl, ↓reduceIte, Nat.reduceEqDiff, Nat.reduceAdd, Nat.zero_add, not_false_eq_true, not_true_eq_false, t0, t3, Rd.sliceLo R5 underlying32 asz5 (q := .i64) (i := (n : Int)), Int.toNat_natCast]
      have L5 := RdI.len P5 underlying32
      have tl := tail r n g1 g3 (by rw [hw]; rfl) hne
      refine ⟨⟨K4, _, v4, cur.drop n, l ++ [r], rfl, rfl, P5, fun x hx => hcB x (List.mem_of_mem_drop hx), by simp only [List.length_append, List.length_singleton, List.length_drop]; omega, by rw [vI_append, List.length_append]; exact O4, tl, L5⟩, ?_⟩
      simp only [RdI.len R underlying32, L5, Int.toNat_natCast, List.length_drop]; omega
    | none =>
      simp only [wholeT, hw]
      simp only [wk, wt, wl, ↓reduceIte, Nat.reduceEqDiff, Nat.reduceAdd, Nat.zero_add, not_false_eq_true, not_true_eq_false, t0, t3, Bool.not_false]
      obtain ⟨v4, h4, e4, O4, C4, R4, _⟩ := O2.append1 (P := prog) (Ch.wf KK) (Ch.le KK) underlying59 elem21 fits21 (by decide) (by decide) (xs := [.int .i32 65533]) rfl (by omega)
      rw [e4]; clear e4
      have K4 := KK.step C4 fun b hb => hb.2
      have R5 := Rd.reads R2 C4.le R4
      have P5 := RdI.partLo R5 (L := 1) hpos
      simp (disch := omega) only [wk, wt, wl, ↓reduceIte, Nat.reduceEqDiff, Nat.reduceAdd, Nat.zero_add, not_false_eq_true, not_true_eq_false, t0, t3, Rd.sliceLo R5 underlying32 asz5 (q := .i64) (i := 1), Int.toNat_one]
      have L5 := RdI.len P5 underlying32
      have tl := tail 65533 1 (by omega) hpos (by rw [hw]; rfl) hne
      refine ⟨⟨K4, _, v4, cur.drop 1, l ++ [65533], rfl, rfl, P5, fun x hx => hcB x (List.mem_of_mem_drop hx), by simp only [List.length_append, List.length_singleton, List.length_drop]; omega, by rw [vI_append, List.length_append]; exact O4, tl, L5⟩, ?_⟩
      simp only [RdI.len R underlying32, L5, Int.toNat_natCast, List.length_drop]; omega
  · have hn : cur = [] := List.eq_nil_of_length_eq_zero (by omega)
    simp only [wk, wt, wl, ↓reduceIte, Nat.reduceEqDiff, Nat.reduceAdd, Nat.zero_add, not_false_eq_true, not_true_eq_false, t3]
    refine ⟨l, ?_, O.1, by omega, K⟩
    subst hn
    simpa using hdec _ .nil
end Go.Proofs.YtiebaefhlacekaaGreatDoor.Am
end
