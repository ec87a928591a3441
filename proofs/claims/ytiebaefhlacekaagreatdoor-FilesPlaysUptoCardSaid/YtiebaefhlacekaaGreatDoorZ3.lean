/- The texts of this seat, one behind another (part 3 of 16): the frame (an abstract machine), the contracts of functions, the laws. -/
import Derived.Test.YtiebaefhlacekaaGreatDoorAmF
import Derived.Laws.BitsLemmas
section
/- Scalars; whether two rows of runes are the same: contracts of utf.Valid and of the document's Valid and Runes, by walks. -/
set_option linter.unusedSimpArgs false
set_option linter.unusedVariables false
set_option maxRecDepth 20000
set_option maxHeartbeats 1000000
namespace Go.Proofs.YtiebaefhlacekaaGreatDoor.Am
open Go Go.RowKit Go.Proofs.Tryz
def isR (r : Int) : Prop := -2147483648 ≤ r ∧ r ≤ 2147483647
def validB (r : Int) : Bool := decide ((0 ≤ r ∧ r < 55296) ∨ (57343 < r ∧ r ≤ 1114111))
theorem valid_ok {r : Int} {h : Heap} (h0 : isR r) : ACalls prog 74 #[.int .i32 r] h (fun v h' => v = .bool (validB r) ∧ h' = h) := by
  obtain ⟨h0, h1⟩ := h0
  refine acalls_of_W func74 rfl (by kernel_rfl) (by kernel_rfl) (by simp [ntmps74]) ?_
  simp only [wk, wt, wl, ↓reduceIte, Nat.reduceEqDiff, Nat.reduceAdd, Nat.zero_add, not_false_eq_true, not_true_eq_false, aconv, IntKind.wrap_u32]
  repeat' (first
      | (with_reducible refine condK_dec (fun hc => ?_) (fun hc => ?_) <;> simp only [wk, wt, wl, ↓reduceIte, Nat.reduceEqDiff, Nat.reduceAdd, Nat.zero_add, not_false_eq_true, not_true_eq_false, aconv, IntKind.wrap_u32, hc])
      | (with_reducible refine condK_split (fun hc => ?_) (fun hc => ?_) <;> simp only [wk, wt, wl, ↓reduceIte, Nat.reduceEqDiff, Nat.reduceAdd, Nat.zero_add, not_false_eq_true, not_true_eq_false, aconv, IntKind.wrap_u32, hc])
      | (with_reducible refine gateO_dec (fun hc => ?_) (fun hc => ?_) <;> simp only [wk, wt, wl, ↓reduceIte, Nat.reduceEqDiff, Nat.reduceAdd, Nat.zero_add, not_false_eq_true, not_true_eq_false, aconv, IntKind.wrap_u32, hc])
      | (with_reducible refine gateO_decF (fun hc => ?_) (fun hc => ?_) <;> simp only [wk, wt, wl, ↓reduceIte, Nat.reduceEqDiff, Nat.reduceAdd, Nat.zero_add, not_false_eq_true, not_true_eq_false, aconv, IntKind.wrap_u32, hc])
      | (with_reducible refine gateO_boolT (fun hc => ?_) (fun hc => ?_) <;> simp only [wk, wt, wl, ↓reduceIte, Nat.reduceEqDiff, Nat.reduceAdd, Nat.zero_add, not_false_eq_true, not_true_eq_false, aconv, IntKind.wrap_u32, hc])
      | (with_reducible refine gateO_boolF (fun hc => ?_) (fun hc => ?_) <;> simp only [wk, wt, wl, ↓reduceIte, Nat.reduceEqDiff, Nat.reduceAdd, Nat.zero_add, not_false_eq_true, not_true_eq_false, aconv, IntKind.wrap_u32, hc]))
  all_goals (simp only [validB, and_true, Value.bool.injEq, eqT, eqF, decide_eq_decide]; omega)
theorem refValid_ok {r : Int} {h : Heap} (h0 : isR r) : ACalls prog 75 #[.int .i32 r] h (fun v h' => v = .bool (validB r) ∧ h' = h) := by
  obtain ⟨h0, h1⟩ := h0
  refine acalls_of_W func75 rfl (by kernel_rfl) (by kernel_rfl) (by simp [ntmps75]) ?_
  simp only [wk, wt, wl, ↓reduceIte, Nat.reduceEqDiff, Nat.reduceAdd, Nat.zero_add, not_false_eq_true, not_true_eq_false]
  repeat' (first
      | (with_reducible refine condK_dec (fun hc => ?_) (fun hc => ?_) <;> simp only [wk, wt, wl, ↓reduceIte, Nat.reduceEqDiff, Nat.reduceAdd, Nat.zero_add, not_false_eq_true, not_true_eq_false, hc])
      | (with_reducible refine condK_split (fun hc => ?_) (fun hc => ?_) <;> simp only [wk, wt, wl, ↓reduceIte, Nat.reduceEqDiff, Nat.reduceAdd, Nat.zero_add, not_false_eq_true, not_true_eq_false, hc])
      | (with_reducible refine gateO_dec (fun hc => ?_) (fun hc => ?_) <;> simp only [wk, wt, wl, ↓reduceIte, Nat.reduceEqDiff, Nat.reduceAdd, Nat.zero_add, not_false_eq_true, not_true_eq_false, hc])
      | (with_reducible refine gateO_decF (fun hc => ?_) (fun hc => ?_) <;> simp only [wk, wt, wl, ↓reduceIte, Nat.reduceEqDiff, Nat.reduceAdd, Nat.zero_add, not_false_eq_true, not_true_eq_false, hc])
      | (with_reducible refine gateO_boolT (fun hc => ?_) (fun hc => ?_) <;> simp only [wk, wt, wl, ↓reduceIte, Nat.reduceEqDiff, Nat.reduceAdd, Nat.zero_add, not_false_eq_true, not_true_eq_false, hc])
      | (with_reducible refine gateO_boolF (fun hc => ?_) (fun hc => ?_) <;> simp only [wk, wt, wl, ↓reduceIte, Nat.reduceEqDiff, Nat.reduceAdd, Nat.zero_add, not_false_eq_true, not_true_eq_false, hc]))
  all_goals (simp only [validB, and_true, Value.bool.injEq, eqT, eqF, decide_eq_decide]; omega)
def intOf : Value → Int
  | .int _ x => x
  | _ => 0
theorem intOf_int {k : IntKind} {x : Int} : intOf (.int k x) = x := rfl
theorem getD_ext {xs ys : List Int} (hl : xs.length = ys.length) (h : ∀ i, i < xs.length → xs.getD i 0 = ys.getD i 0) : xs = ys := by
  refine List.ext_getElem hl fun i h1 h2 => ?_
  have := h i h1
  simpa [h1, h2] using this
theorem runes_ok {a b : Value} {xs ys : List Int} {h : Heap} (ha : RdI prog h .i32 a xs) (hb : RdI prog h .i32 b ys) (hlen : xs.length < 9223372036854775807) : ACalls prog 33 #[a, b] h (fun v h' => v = .bool (decide (xs = ys)) ∧ h' = h) := by
  refine acalls_of_W func33 rfl (by kernel_rfl) (by kernel_rfl) (by simp [ntmps33]) ?_
  simp only [wk, wt, wl, ↓reduceIte, Nat.reduceEqDiff, Nat.reduceAdd, Nat.zero_add, not_false_eq_true, not_true_eq_false, Rd.len ha underlying59, Rd.len hb underlying59]
  refine condK_dec (fun hc => ?_) (fun hc => ?_)
  · simp only [wk, wt, wl, ↓reduceIte, Nat.reduceEqDiff, Nat.reduceAdd, Nat.zero_add, not_false_eq_true, not_true_eq_false]
    refine ⟨?_, trivial⟩
    have : ¬ xs = ys := fun e => hc (by rw [e])
    simp [this]
  · have hl : xs.length = ys.length := by omega
    simp only [wk, wt, wl, ↓reduceIte, Nat.reduceEqDiff, Nat.reduceAdd, Nat.zero_add, not_false_eq_true, not_true_eq_false]
    refine W_loop (fun tm h' => h' = h ∧ tm 0 = a ∧ tm 1 = b ∧ ∃ i : Nat, tm 5 = .int .i64 i ∧ i ≤ xs.length ∧ ∀ j, j < i → xs.getD j 0 = ys.getD j 0) (fun tm _ => (xs.length - intOf (tm 5)).toNat) ⟨rfl, by simp only [wk, wt, wl, ↓reduceIte, Nat.reduceEqDiff, Nat.reduceAdd, Nat.zero_add, not_false_eq_true, not_true_eq_false], by simp only [wk, wt, wl, ↓reduceIte, Nat.reduceEqDiff, Nat.reduceAdd, Nat.zero_add, not_false_eq_true, not_true_eq_false], 0, by simp only [wk, wt, wl, ↓reduceIte, Nat.reduceEqDiff, Nat.reduceAdd, Nat.zero_add, not_false_eq_true, not_true_eq_false]; rfl, by omega, fun j hj => by omega⟩ ?_
    rintro tm h' ⟨rfl, h0, h1, i, h5, hi, hj⟩
    simp only [wk, wt, wl, ↓reduceIte, Nat.reduceEqDiff, Nat.reduceAdd, Nat.zero_add, not_false_eq_true, not_true_eq_false, h0, h1, h5, Rd.len ha underlying59]
    refine condK_dec (fun hc => ?_) (fun hc => ?_)
    · simp only [wk, wt, wl, ↓reduceIte, Nat.reduceEqDiff, Nat.reduceAdd, Nat.zero_add, not_false_eq_true, not_true_eq_false]
      refine adraw_order [(0, false), (1, false), (2, false), (3, false), (4, false), (5, false), (6, false), (7, false), (8, false)] mixed (by kernel_rfl) (by kernel_rfl) (by kernel_rfl) (by with_reducible repeat (first | exact PF_retK | refine PF_thenK ?_ | refine PF_blockK ?_)) ?_
      simp only [wk, wt, wl, ↓reduceIte, Nat.reduceEqDiff, Nat.reduceAdd, Nat.zero_add, not_false_eq_true, not_true_eq_false, h0, h1, h5, Rd.index ha underlying59 asz21 (q := .i64) (i := i) (by omega) (by omega), Rd.index hb underlying59 asz21 (q := .i64) (i := i) (by omega) (by omega), RdI.at ha underlying21 rfl (i := i) (by omega), RdI.at hb underlying21 rfl (i := i) (by omega)]
      refine condK_dec (fun hd => ?_) (fun hd => ?_)
      · simp only [wk, wt, wl, ↓reduceIte, Nat.reduceEqDiff, Nat.reduceAdd, Nat.zero_add, not_false_eq_true, not_true_eq_false]
        have : ¬ xs = ys := fun e => hd (by rw [e])
        simp [this]
      · simp (disch := omega) only [wk, wt, wl, ↓reduceIte, Nat.reduceEqDiff, Nat.reduceAdd, Nat.zero_add, not_false_eq_true, not_true_eq_false, h0, h1, h5, IntWalk.i64_in, intOf_int]
        refine ⟨⟨i + 1, by simp, by omega, fun j hj' => ?_⟩, by omega⟩
        by_cases e : j = i
        · subst e; exact Decidable.not_not.1 hd
        · exact hj j (by omega)
    · simp only [wk, wt, wl, ↓reduceIte, Nat.reduceEqDiff, Nat.reduceAdd, Nat.zero_add, not_false_eq_true, not_true_eq_false]
      have : xs = ys := getD_ext hl fun j hj' => hj j (by omega)
      simp [this]
end Go.Proofs.YtiebaefhlacekaaGreatDoor.Am
end
section
/- Bytes and runes in plain terms: which bytes a rune has, with which rune bytes begin; no program in sight. -/
set_option linter.unusedSimpArgs false
set_option linter.unusedVariables false
set_option maxRecDepth 20000
set_option maxHeartbeats 2000000
namespace Go.Proofs.YtiebaefhlacekaaGreatDoor.Am
open Go Go.RowKit Go.Proofs.Tryz
def isB (x : Int) : Prop := 0 ≤ x ∧ x ≤ 255
def fixR (r : Int) : Int := if validB r = true then r else 65533
def encV (n : Int) : List Int := if n < 128 then [n] else if n < 2048 then [192 + n / 64, 128 + n % 64] else if n < 65536 then [224 + n / 4096, 128 + n / 64 % 64, 128 + n % 64] else [240 + n / 262144, 128 + n / 4096 % 64, 128 + n / 64 % 64, 128 + n % 64]
def encR (r : Int) : List Int := encV (fixR r)
def leadN (c : Int) : Nat := if c < 128 then 1 else if c < 194 ∨ 244 < c then 0 else if c < 224 then 2 else if c < 240 then 3 else 4
def leadV (c : Int) : Int := if c < 128 then c else if c < 194 ∨ 244 < c then 0 else if c < 224 then c % 32 else if c < 240 then c % 16 else c % 8
def leadLo (c : Int) : Int := if c = 224 then 160 else if c = 240 then 144 else 128
def leadHi (c : Int) : Int := if c = 237 then 159 else if c = 244 then 143 else 191
def goZ (n : Nat) : Nat → Int → Int → Int → List Int → Option (Int × Nat)
  | 0, v, _, _, _ => some (v, n)
  | _ + 1, _, _, _, [] => none
  | k + 1, v, lo, hi, x :: t => if x < lo ∨ hi < x then some (65533, 1) else goZ n k (v * 64 + x % 64) 128 191 t
def nextZ : List Int → Option (Int × Nat)
  | [] => none
  | c :: t => if leadN c = 0 then some (65533, 1) else goZ (leadN c) (leadN c - 1) (leadV c) (leadLo c) (leadHi c) t
/-- A scalar with whose bytes the row begins. -/
def wholeZ (b : List Int) : Option (Int × Nat) :=
  match nextZ b with
  | some p => if p = (65533, 1) then none else some p
  | none => none
theorem fixR_valid {r : Int} : validB (fixR r) = true := by
  unfold fixR; split
  · assumption
  · decide
theorem fixR_isR {r : Int} : isR (fixR r) := by
  have := fixR_valid (r := r)
  simp only [validB, decide_eq_true_eq] at this
  unfold isR; omega
theorem leadN_le {c : Int} : leadN c ≤ 4 := by
  unfold leadN; repeat' split
  all_goals omega
theorem lead_cases (c : Int) (h0 : 0 ≤ c) (h1 : c ≤ 255) : (leadN c = 0 ∧ 128 ≤ c ∧ (c < 194 ∨ 244 < c)) ∨ (leadN c = 1 ∧ c < 128 ∧ leadV c = c) ∨ (leadN c = 2 ∧ 194 ≤ c ∧ c < 224 ∧ leadV c = c % 32 ∧ leadLo c = 128 ∧ leadHi c = 191) ∨
    (leadN c = 3 ∧ 224 ≤ c ∧ c < 240 ∧ leadV c = c % 16 ∧ ((c = 224 ∧ leadLo c = 160 ∧ leadHi c = 191) ∨ (c = 237 ∧ leadLo c = 128 ∧ leadHi c = 159) ∨ (c ≠ 224 ∧ c ≠ 237 ∧ leadLo c = 128 ∧ leadHi c = 191))) ∨
    (leadN c = 4 ∧ 240 ≤ c ∧ c ≤ 244 ∧ leadV c = c % 8 ∧ ((c = 240 ∧ leadLo c = 144 ∧ leadHi c = 191) ∨ (c = 244 ∧ leadLo c = 128 ∧ leadHi c = 143) ∨ (c ≠ 240 ∧ c ≠ 244 ∧ leadLo c = 128 ∧ leadHi c = 191))) := by
  unfold leadN leadV leadLo leadHi
  repeat' split
  all_goals omega
theorem lead_lo {c : Int} : (leadLo c = 128 ∨ leadLo c = 144 ∨ leadLo c = 160) ∧ leadLo c ≤ leadHi c ∧ leadHi c ≤ 191 ∧ 128 ≤ leadHi c := by
  unfold leadLo leadHi
  repeat' split
  all_goals omega
theorem goZ_le {n k : Nat} : ∀ {v lo hi : Int} {l : List Int} {p : Int × Nat}, goZ n k v lo hi l = some p → p = (65533, 1) ∨ (p.2 = n ∧ k ≤ l.length) := by
  induction k with
  | zero => intro v lo hi l p h; simp only [goZ, Option.some.injEq] at h; subst h; exact .inr ⟨rfl, Nat.zero_le _⟩
  | succ k ih =>
    intro v lo hi l p h
    cases l with
    | nil => simp [goZ] at h
    | cons x t =>
      simp only [goZ] at h
      split at h
      · simp only [Option.some.injEq] at h; exact .inl h.symm
      · exact (ih h).imp id fun e => ⟨e.1, by simp only [List.length_cons]; omega⟩
theorem goZ_app {n k : Nat} : ∀ {v lo hi : Int} {l t : List Int} {p : Int × Nat}, goZ n k v lo hi l = some p → goZ n k v lo hi (l ++ t) = some p := by
  induction k with
  | zero => intro v lo hi l t p h; simpa [goZ] using h
  | succ k ih =>
    intro v lo hi l t p h
    cases l with
    | nil => simp [goZ] at h
    | cons x l =>
      simp only [goZ, List.cons_append] at h ⊢
      split
      · rename_i hc; rw [if_pos hc] at h; exact h
      · rename_i hc; rw [if_neg hc] at h; exact ih h
theorem goZ_none {n k : Nat} : ∀ {v lo hi : Int} {l : List Int}, goZ n k v lo hi l = none → l.length < k ∧ ∀ x, x ∈ l.drop 1 → 128 ≤ x ∧ x ≤ 191 := by
  induction k with
  | zero => intro v lo hi l h; simp [goZ] at h
  | succ k ih =>
    intro v lo hi l h
    cases l with
    | nil => exact ⟨by simp, by simp⟩
    | cons x l =>
      simp only [goZ] at h
      split at h
      · cases h
      · obtain ⟨h1, h2⟩ := ih h
        refine ⟨by simp only [List.length_cons]; omega, fun y hy => ?_⟩
        cases l with
        | nil => simp at hy
        | cons z l =>
          rcases List.mem_cons.1 hy with rfl | hy
          · cases k with
            | zero => simp [goZ] at h
            | succ k =>
              simp only [goZ] at h
              split at h
              · cases h
              · omega
          · exact h2 y hy
theorem nextZ_app {b t : List Int} {p : Int × Nat} (h : nextZ b = some p) : nextZ (b ++ t) = some p := by
  cases b with
  | nil => simp [nextZ] at h
  | cons c b =>
    simp only [nextZ, List.cons_append] at h ⊢
    split
    · rename_i hc; rw [if_pos hc] at h; exact h
    · rename_i hc; rw [if_neg hc] at h; exact goZ_app h
theorem nextZ_le {b : List Int} {r : Int} {n : Nat} (h : nextZ b = some (r, n)) : 1 ≤ n ∧ n ≤ b.length ∧ n ≤ 4 := by
  cases b with
  | nil => simp [nextZ] at h
  | cons c b =>
    simp only [nextZ] at h
    have := leadN_le (c := c)
    split at h
    · simp only [Option.some.injEq, Prod.mk.injEq] at h; simp only [List.length_cons]; omega
    · rcases goZ_le h with e | ⟨e1, e2⟩
      · simp only [Prod.mk.injEq] at e; simp only [List.length_cons]; omega
      · simp only at e1; simp only [List.length_cons]; omega
theorem nextZ_none {b : List Int} (h : nextZ b = none) : b.length ≤ 3 ∧ ∀ x, x ∈ b.drop 1 → 128 ≤ x ∧ x ≤ 191 := by
  cases b with
  | nil => exact ⟨by simp, by simp⟩
  | cons c b =>
    simp only [nextZ] at h
    have hl := leadN_le (c := c)
    split at h
    · cases h
    · obtain ⟨h1, h2⟩ := goZ_none h
      refine ⟨by simp only [List.length_cons]; omega, fun x hx => ?_⟩
      simp only [List.drop_succ_cons, List.drop_zero] at hx
      cases b with
      | nil => simp at hx
      | cons y b =>
        rcases List.mem_cons.1 hx with rfl | hx
        · have := lead_lo (c := c)
          cases hk : leadN c - 1 with
          | zero => rw [hk] at h; simp [goZ] at h
          | succ k =>
            rw [hk] at h
            simp only [goZ] at h
            split at h
            · cases h
            · omega
        · exact h2 x hx
/-- A rune's bytes are read as it. -/
theorem nextZ_enc {r : Int} (hr : validB r = true) (t : List Int) : nextZ (encV r ++ t) = some (r, (encV r).length) := by
  simp only [validB, decide_eq_true_eq] at hr
  unfold encV
  split
  · have : leadN r = 1 := by unfold leadN; rw [if_pos (by omega)]
    have hv : leadV r = r := by unfold leadV; rw [if_pos (by omega)]
    simp [nextZ, this, hv, goZ]
  · split
    · rcases lead_cases (192 + r / 64) (by omega) (by omega) with h | h | h | h | h
      · omega
      · omega
      · obtain ⟨h1, _, _, h2, h3, h4⟩ := h
        simp only [nextZ, List.cons_append, List.nil_append, h1, h2, h3, h4]
        simp only [goZ, Nat.reduceEqDiff, if_false]
        rw [if_neg (by omega)]
        simp only [Option.some.injEq, Prod.mk.injEq, List.length_cons, List.length_nil, and_true]; omega
      · omega
      · omega
    · split
      · rcases lead_cases (224 + r / 4096) (by omega) (by omega) with h | h | h | h | h
        · omega
        · omega
        · omega
        · obtain ⟨h1, _, _, h2, h3⟩ := h
          simp only [nextZ, List.cons_append, List.nil_append, h1, h2]
          simp only [goZ, Nat.reduceEqDiff, if_false]
          rw [if_neg (by omega), if_neg (by omega)]
          simp only [Option.some.injEq, Prod.mk.injEq, List.length_cons, List.length_nil, and_true]; omega
        · omega
      · rcases lead_cases (240 + r / 262144) (by omega) (by omega) with h | h | h | h | h
        · omega
        · omega
        · omega
        · omega
        · obtain ⟨h1, _, _, h2, h3⟩ := h
          simp only [nextZ, List.cons_append, List.nil_append, h1, h2]
          simp only [goZ, Nat.reduceEqDiff, if_false]
          rw [if_neg (by omega), if_neg (by omega), if_neg (by omega)]
          simp only [Option.some.injEq, Prod.mk.injEq, List.length_cons, List.length_nil, and_true]; omega
/-- What is read are a rune's bytes, or one that is none. -/
theorem nextZ_exact {b : List Int} {r : Int} {n : Nat} (hb : ∀ x, x ∈ b → isB x) (h : nextZ b = some (r, n)) (hg : (r, n) ≠ (65533, 1)) : validB r = true ∧ ∃ t, b = encV r ++ t ∧ n = (encV r).length := by
  cases b with
  | nil => simp [nextZ] at h
  | cons c b =>
    have hc := hb c (by simp)
    simp only [nextZ] at h
    rcases lead_cases c hc.1 hc.2 with g | g | g | g | g
    · rw [if_pos g.1] at h; simp only [Option.some.injEq] at h; exact absurd h.symm hg
    · obtain ⟨g1, g2, g3⟩ := g
      simp only [g1, g3, goZ, Nat.reduceEqDiff, if_false, Option.some.injEq, Prod.mk.injEq] at h
      obtain ⟨rfl, rfl⟩ := h
      unfold isB at hc
      refine ⟨by simp only [validB, decide_eq_true_eq]; omega, b, ?_, ?_⟩ <;> · unfold encV; rw [if_pos g2]; rfl
    · obtain ⟨g1, g2, g3, g4, g5, g6⟩ := g
      simp only [g1, g4, g5, g6, Nat.reduceEqDiff, if_false, Nat.reduceSub] at h
      cases b with
      | nil => simp [goZ] at h
      | cons x b =>
        have hx := hb x (by simp)
        unfold isB at hc hx
        simp only [goZ] at h
        split at h
        · simp only [Option.some.injEq] at h; exact absurd h.symm hg
        · simp only [Option.some.injEq, Prod.mk.injEq] at h
          obtain ⟨rfl, rfl⟩ := h
          have e : encV (c % 32 * 64 + x % 64) = [c, x] := by
            unfold encV; rw [if_neg (by omega), if_pos (by omega)]
            simp only [List.cons.injEq, and_true]; omega
          exact ⟨by simp only [validB, decide_eq_true_eq]; omega, b, by rw [e]; rfl, by rw [e]; rfl⟩
    · obtain ⟨g1, g2, g3, g4, g5⟩ := g
      simp only [g1, g4, Nat.reduceEqDiff, if_false, Nat.reduceSub] at h
      cases b with
      | nil => simp [goZ] at h
      | cons x b =>
        have hx := hb x (by simp)
        simp only [goZ] at h
        split at h
        · simp only [Option.some.injEq] at h; exact absurd h.symm hg
        · rename_i hx2
          cases b with
          | nil => simp [goZ] at h
          | cons y b =>
            have hy := hb y (by simp)
            unfold isB at hc hx hy
            simp only [goZ] at h
            split at h
            · simp only [Option.some.injEq] at h; exact absurd h.symm hg
            · simp only [Option.some.injEq, Prod.mk.injEq] at h
              obtain ⟨rfl, rfl⟩ := h
              have e : encV ((c % 16 * 64 + x % 64) * 64 + y % 64) = [c, x, y] := by
                unfold encV; rw [if_neg (by omega), if_neg (by omega), if_pos (by omega)]
                simp only [List.cons.injEq, and_true]; omega
              exact ⟨by simp only [validB, decide_eq_true_eq]; omega, b, by rw [e]; rfl, by rw [e]; rfl⟩
    · obtain ⟨g1, g2, g3, g4, g5⟩ := g
      simp only [g1, g4, Nat.reduceEqDiff, if_false, Nat.reduceSub] at h
      cases b with
      | nil => simp [goZ] at h
      | cons x b =>
        have hx := hb x (by simp)
        simp only [goZ] at h
        split at h
        · simp only [Option.some.injEq] at h; exact absurd h.symm hg
        · rename_i hx2
          cases b with
          | nil => simp [goZ] at h
          | cons y b =>
            have hy := hb y (by simp)
            simp only [goZ] at h
            split at h
            · simp only [Option.some.injEq] at h; exact absurd h.symm hg
            · cases b with
              | nil => simp [goZ] at h
              | cons z b =>
                have hz := hb z (by simp)
                unfold isB at hc hx hy hz
                simp only [goZ] at h
                split at h
                · simp only [Option.some.injEq] at h; exact absurd h.symm hg
                · simp only [Option.some.injEq, Prod.mk.injEq] at h
                  obtain ⟨rfl, rfl⟩ := h
                  have e : encV (((c % 8 * 64 + x % 64) * 64 + y % 64) * 64 + z % 64) = [c, x, y, z] := by
                    unfold encV; rw [if_neg (by omega), if_neg (by omega), if_neg (by omega)]
                    simp only [List.cons.injEq, and_true]; omega
                  exact ⟨by simp only [validB, decide_eq_true_eq]; omega, b, by rw [e]; rfl, by rw [e]; rfl⟩
/-- The ends of what may stand behind bytes tell whether more may make a scalar. -/
def endsT : List Int := [128, 143, 144, 159, 160, 191]
theorem goZ_ext {n k : Nat} : ∀ {v lo hi : Int} {l : List Int}, goZ n k v lo hi l = none → (lo = 128 ∨ lo = 144 ∨ lo = 160) → lo ≤ hi → ∃ x, x ∈ endsT ∧ ((k = l.length + 1 ∧ ∃ r, goZ n k v lo hi (l ++ [x]) = some (r, n)) ∨ (l.length + 1 < k ∧ goZ n k v lo hi (l ++ [x]) = none)) := by
  induction k with
  | zero => intro v lo hi l h; simp [goZ] at h
  | succ k ih =>
    intro v lo hi l h hlo hhi
    cases l with
    | nil =>
      refine ⟨lo, by rcases hlo with rfl | rfl | rfl <;> decide, ?_⟩
      simp only [List.nil_append, goZ]
      rw [if_neg (by omega)]
      cases k with
      | zero => exact .inl ⟨rfl, _, rfl⟩
      | succ k => exact .inr ⟨by simp, by simp [goZ]⟩
    | cons y l =>
      simp only [goZ] at h
      split at h
      · cases h
      · rename_i hy
        obtain ⟨x, hx, hh⟩ := ih h (.inl rfl) (by omega)
        refine ⟨x, hx, ?_⟩
        simp only [List.cons_append, goZ, List.length_cons]
        rw [if_neg hy]
        rcases hh with ⟨e, g⟩ | ⟨e, g⟩
        · exact .inl ⟨by omega, g⟩
        · exact .inr ⟨by omega, g⟩
def extB (b : List Int) (x : Int) : Prop := (∃ r, wholeZ (b ++ [x]) = some (r, b.length + 1)) ∨ (b.length + 1 < 4 ∧ nextZ (b ++ [x]) = none ∧ b ++ [x] ≠ [])
theorem ext_iff {b : List Int} : (∃ x, x ∈ endsT ∧ extB b x) ↔ (b ≠ [] ∧ nextZ b = none) := by
  constructor
  · rintro ⟨x, hx, h⟩
    cases hn : nextZ b with
    | some p =>
      obtain ⟨r, n⟩ := p
      have h1 := nextZ_app (t := [x]) hn
      have h2 := nextZ_le hn
      rcases h with ⟨r', h⟩ | ⟨_, h, _⟩
      · simp only [wholeZ, h1] at h
        split at h
        · cases h
        · simp only [Option.some.injEq, Prod.mk.injEq] at h; omega
      · rw [h1] at h; cases h
    | none =>
      refine ⟨?_, rfl⟩
      rintro rfl
      simp only [endsT, List.mem_cons, List.not_mem_nil, or_false] at hx
      rcases hx with rfl | rfl | rfl | rfl | rfl | rfl <;> simp [extB, wholeZ, nextZ, leadN] at h
  · rintro ⟨hne, hn⟩
    cases b with
    | nil => exact absurd rfl hne
    | cons c b =>
      have hl := lead_lo (c := c)
      simp only [nextZ] at hn
      split at hn
      · cases hn
      · rename_i h0
        have hle := leadN_le (c := c)
        obtain ⟨x, hx, hh⟩ := goZ_ext hn hl.1 hl.2.1
        refine ⟨x, hx, ?_⟩
        rcases hh with ⟨e, r, g⟩ | ⟨e, g⟩
        · refine .inl ⟨r, ?_⟩
          simp only [wholeZ, nextZ, List.cons_append, if_neg h0, g]
          rw [if_neg (by simp only [Prod.mk.injEq]; omega)]
          simp only [List.length_cons, Option.some.injEq, Prod.mk.injEq, true_and]; omega
        · refine .inr ⟨by simp only [List.length_cons]; omega, ?_, by simp⟩
          simp only [nextZ, List.cons_append, if_neg h0, g]
end Go.Proofs.YtiebaefhlacekaaGreatDoor.Am
end
