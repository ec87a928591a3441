/- A scalar with whose bytes a row begins: contracts of the document's same and Whole, by walks. -/
import Derived.Test.YtgllmnckphbkeaaVg
set_option linter.unusedSimpArgs false
set_option linter.unusedVariables false
set_option maxHeartbeats 4000000
namespace Go.Proofs.Ytgllmnckphbkeaa.Am
open Go Go.RowKit Go.Proofs.Try
theorem sameB_ok {a b : Value} {xs ys : List Int} {h : Heap} (ha : RdI prog h .u8 a xs) (hb : RdI prog h .u8 b ys) (hlen : xs.length < 9223372036854775807) : ACalls prog 31 #[a, b] h (fun v h' => v = .bool (decide (xs = ys)) ∧ h' = h) := by
  refine acalls_of_W func31 rfl (by kernel_rfl) (by kernel_rfl) (by simp [ntmps31]) ?_
  simp only [wk, wt, wl, ↓reduceIte, Nat.reduceEqDiff, Nat.reduceAdd, Nat.zero_add, not_false_eq_true, not_true_eq_false, Rd.len ha underlying22, Rd.len hb underlying22]
  refine condK_dec (fun hc => ?_) (fun hc => ?_)
  · simp only [wk, wt, wl, ↓reduceIte, Nat.reduceEqDiff, Nat.reduceAdd, Nat.zero_add, not_false_eq_true, not_true_eq_false]
    refine ⟨?_, trivial⟩
    have : ¬ xs = ys := fun e => hc (by rw [e])
    simp [this]
  · have hl : xs.length = ys.length := by omega
    simp only [wk, wt, wl, ↓reduceIte, Nat.reduceEqDiff, Nat.reduceAdd, Nat.zero_add, not_false_eq_true, not_true_eq_false]
    refine W_loop (fun tm h' => h' = h ∧ tm 0 = a ∧ tm 1 = b ∧ ∃ i : Nat, tm 5 = .int .i64 i ∧ i ≤ xs.length ∧ ∀ j, j < i → xs.getD j 0 = ys.getD j 0) (fun tm _ => (xs.length - intOf (tm 5)).toNat) ⟨rfl, by simp only [wk, wt, wl, ↓reduceIte, Nat.reduceEqDiff, Nat.reduceAdd, Nat.zero_add, not_false_eq_true, not_true_eq_false], by simp only [wk, wt, wl, ↓reduceIte, Nat.reduceEqDiff, Nat.reduceAdd, Nat.zero_add, not_false_eq_true, not_true_eq_false], 0, by simp only [wk, wt, wl, ↓reduceIte, Nat.reduceEqDiff, Nat.reduceAdd, Nat.zero_add, not_false_eq_true, not_true_eq_false]; rfl, by omega, fun j hj => by omega⟩ ?_
    rintro tm h' ⟨rfl, h0, h1, i, h5, hi, hj⟩
    simp only [wk, wt, wl, ↓reduceIte, Nat.reduceEqDiff, Nat.reduceAdd, Nat.zero_add, not_false_eq_true, not_true_eq_false, h0, h1, h5, Rd.len ha underlying22]
    refine condK_dec (fun hc => ?_) (fun hc => ?_)
    · simp only [wk, wt, wl, ↓reduceIte, Nat.reduceEqDiff, Nat.reduceAdd, Nat.zero_add, not_false_eq_true, not_true_eq_false]
      refine adraw_order [(0, false), (1, false), (2, false), (3, false), (4, false), (5, false), (6, false), (7, false), (8, false)] mixed (by kernel_rfl) (by kernel_rfl) (by kernel_rfl) (by repeat (first | exact PF_retK | refine PF_thenK ?_ | refine PF_blockK ?_)) ?_
      simp only [wk, wt, wl, ↓reduceIte, Nat.reduceEqDiff, Nat.reduceAdd, Nat.zero_add, not_false_eq_true, not_true_eq_false, h0, h1, h5, Rd.index ha underlying22 asz5 (q := .i64) (i := i) (by omega) (by omega), Rd.index hb underlying22 asz5 (q := .i64) (i := i) (by omega) (by omega), RdI.at ha underlying5 rfl (i := i) (by omega), RdI.at hb underlying5 rfl (i := i) (by omega)]
      refine condK_dec (fun hd => ?_) (fun hd => ?_)
      · simp only [wk, wt, wl, ↓reduceIte, Nat.reduceEqDiff, Nat.reduceAdd, Nat.zero_add, not_false_eq_true, not_true_eq_false]
        have : ¬ xs = ys := fun e => hd (by rw [e])
        simp [this]
      · simp (disch := omega) only [wk, wt, wl, ↓reduceIte, Nat.reduceEqDiff, Nat.reduceAdd, Nat.zero_add, not_false_eq_true, not_true_eq_false, h0, h1, h5, IntWalk.i64_in, intOf_int]
        refine ⟨⟨i + 1, by simp, by omega, fun j hj' => ?_⟩, by omega⟩
        by_cases e : j = i
        · subst e; exact Decidable.not_not.1 hd
        · exact hj j (by omega)
    · simp only [wk, wt, wl, ↓reduceIte, Nat.reduceEqDiff, Nat.reduceAdd, Nat.zero_add, not_false_eq_true, not_true_eq_false]
      have : xs = ys := getD_ext hl fun j hj' => hj j (by omega)
      simp [this]
def wholeT (b : List Int) : Value :=
  match wholeZ b with
  | some p => .tuple #[.int .i32 p.1, .int .i64 p.2, .bool true]
  | none => .tuple #[.int .i32 0, .int .i64 0, .bool false]
theorem whole_ok {v : Value} {b : List Int} {h : Heap} (hv : RdI prog h .u8 v b) (hb : ∀ x, x ∈ b → isB x) (hl : b.length ≤ 9223372036854775807) :
    ACalls prog 26 #[v] h (fun x h' => x = wholeT b ∧ Keeps h h') := by
  refine acalls_of_W' func26 rfl (by kernel_rfl) (by kernel_rfl) (by simp [ntmps26]) ?_
  intro H
  simp only [wk, wt, wl, ↓reduceIte, Nat.reduceEqDiff, Nat.reduceAdd, Nat.zero_add, not_false_eq_true, not_true_eq_false]
  refine W_loop (fun tm h' => Keeps h h' ∧ tm 0 = v ∧ ∃ n : Nat, tm 5 = .int .i64 n ∧ 1 ≤ n ∧ n ≤ 5 ∧ n ≤ b.length + 1 ∧ ∀ m, 1 ≤ m → m < n → ¬ testB b m) (fun tm _ => (5 - intOf (tm 5)).toNat) ⟨Keeps.refl H, (by first | rfl | (simp only [wk, wt, wl, ↓reduceIte, Nat.reduceEqDiff, Nat.reduceAdd, Nat.zero_add, not_false_eq_true, not_true_eq_false]; done) | (simp only [wk, wt, wl, ↓reduceIte, Nat.reduceEqDiff, Nat.reduceAdd, Nat.zero_add, not_false_eq_true, not_true_eq_false]; rfl)), 1, (by first | rfl | (simp only [wk, wt, wl, ↓reduceIte, Nat.reduceEqDiff, Nat.reduceAdd, Nat.zero_add, not_false_eq_true, not_true_eq_false]; done) | (simp only [wk, wt, wl, ↓reduceIte, Nat.reduceEqDiff, Nat.reduceAdd, Nat.zero_add, not_false_eq_true, not_true_eq_false]; rfl)), by omega, by omega, by omega, fun m h1 h2 => by omega⟩ ?_
  rintro tm h' ⟨K, t0, n, t5, h1, h5, hn, hno⟩
  have hv' := hv.keeps K
  by_cases hgo : n ≤ 4 ∧ n ≤ b.length
  · obtain ⟨h4, hn'⟩ := hgo
    have d1 : decide ((n : Int) ≤ 4) = true := decide_eq_true (by omega)
    have d2 : decide ((n : Int) ≤ b.length) = true := decide_eq_true (by omega)
    simp (disch := omega) only [wk, wt, wl, ↓reduceIte, Nat.reduceEqDiff, Nat.reduceAdd, Nat.zero_add, not_false_eq_true, not_true_eq_false, t0, t5, RdI.len hv' underlying22, d1, d2]
    refine (value_ok hv' hb h1 h4 hn').use_pure ?_
    have zr := valueZ_range (b := b) (n := n)
    have ti := testB_iff hb hn'
    have zR : isR (valueZ b n) := by unfold isR; omega
    have key : ∀ {Q : Value → Heap → Prop}, True := fun {_} => trivial
    have tdef : testB b n ↔ (0 ≤ valueZ b n ∧ validB (valueZ b n) = true ∧ encV (valueZ b n) = b.take n) := Iff.rfl
    generalize valueZ b n = z at zr ti zR tdef ⊢
    have nxt : ¬ testB b n → ∀ m, 1 ≤ m → m < n + 1 → ¬ testB b m := fun hnt m g1 g2 => by
      by_cases e : m = n
      · subst e; exact hnt
      · exact hno m g1 (by omega)
    simp only [wk, wt, wl, ↓reduceIte, Nat.reduceEqDiff, Nat.reduceAdd, Nat.zero_add, not_false_eq_true, not_true_eq_false]
    refine adraw_order [(0, false), (1, false), (2, false), (3, false), (4, true), (5, false), (6, false), (7, false), (9, false), (10, false), (11, false), (8, true), (12, true), (13, false)] mixed (by kernel_rfl) (by kernel_rfl) (by kernel_rfl) (by repeat (first | exact PF_retK | refine PF_thenK ?_ | refine PF_blockK ?_)) ?_
    by_cases hz : 0 ≤ z
    · have d3 : decide (0 ≤ z) = true := decide_eq_true hz
      simp (disch := omega) only [wk, wt, wl, ↓reduceIte, Nat.reduceEqDiff, Nat.reduceAdd, Nat.zero_add, not_false_eq_true, not_true_eq_false, t0, t5, d3, dK_t]
      refine (refValid_ok zR).use_pure ?_
      cases hvz : validB z with
      | true =>
        simp (disch := omega) only [wk, wt, wl, ↓reduceIte, Nat.reduceEqDiff, Nat.reduceAdd, Nat.zero_add, not_false_eq_true, not_true_eq_false, t0, t5, dK_t, Rd.sliceHi hv' underlying22 asz5, Int.toNat_natCast]
        refine ⟨Reads.refl _, ?_⟩
        refine (one_ok zR).use_pure ?_
        have ez : encR z = encV z := by rw [encR, fixR, if_pos hvz]
        have N := Keeps.new (Ch.wf K) 5 (bI (encR z))
        have X := rdNewB (Ch.wf K) (encR z)
        have hv2 := hv'.keeps N
        have P2 := hv2.part (L := 0) (H := n) (Nat.zero_le _) hn'
        rw [List.drop_zero, Nat.sub_zero] at P2
        simp (disch := omega) only [wk, wt, wl, ↓reduceIte, Nat.reduceEqDiff, Nat.reduceAdd, Nat.zero_add, not_false_eq_true, not_true_eq_false, t0, t5, dK_t]
        refine ⟨N.reads (Ch.wf K), ?_⟩
        have hel := lenZ_range (r := z)
        unfold lenZ at hel
        refine (sameB_ok X P2 (by omega)).use_pure ?_
        by_cases hs : encR z = b.take n
        · have hw := ti.1 (tdef.2 ⟨hz, hvz, ez ▸ hs⟩)
          have d4 : decide (encR z = b.take n) = true := decide_eq_true hs
          simp (disch := omega) only [wk, wt, wl, ↓reduceIte, Nat.reduceEqDiff, Nat.reduceAdd, Nat.zero_add, not_false_eq_true, not_true_eq_false, t0, t5, dK_t, d4]
          refine ⟨Reads.refl _, ?_⟩
          simp only [wholeT, hw]
          first
            | exact K.trans N
            | exact ⟨rfl, K.trans N⟩
            | exact ⟨trivial, K.trans N⟩
        · have d4 : decide (encR z = b.take n) = false := decide_eq_false hs
          have hnt : ¬ testB b n := fun e => hs (ez.trans (tdef.1 e).2.2)
          simp (disch := omega) only [wk, wt, wl, ↓reduceIte, Nat.reduceEqDiff, Nat.reduceAdd, Nat.zero_add, not_false_eq_true, not_true_eq_false, t0, t5, dK_t, d4, IntWalk.i64_in, intOf_int]
          refine ⟨Reads.refl _, ?_⟩
          exact ⟨⟨K.trans N, n + 1, by simp, by omega, by omega, by omega, nxt hnt⟩, by omega⟩
      | false =>
        have hnt : ¬ testB b n := fun e => by have := (tdef.1 e).2.1; rw [hvz] at this; cases this
        simp (disch := omega) only [wk, wt, wl, ↓reduceIte, Nat.reduceEqDiff, Nat.reduceAdd, Nat.zero_add, not_false_eq_true, not_true_eq_false, t0, t5, dK_t, IntWalk.i64_in, intOf_int]
        repeat (refine ⟨Reads.refl _, ?_⟩)
        exact ⟨⟨K, n + 1, by simp, by omega, by omega, by omega, nxt hnt⟩, by omega⟩
    · have d3 : decide (0 ≤ z) = false := decide_eq_false hz
      have hnt : ¬ testB b n := fun e => hz (tdef.1 e).1
      simp (disch := omega) only [wk, wt, wl, ↓reduceIte, Nat.reduceEqDiff, Nat.reduceAdd, Nat.zero_add, not_false_eq_true, not_true_eq_false, t0, t5, d3, dK_t, IntWalk.i64_in, intOf_int]
      repeat (refine ⟨Reads.refl _, ?_⟩)
      exact ⟨⟨K, n + 1, by simp, by omega, by omega, by omega, nxt hnt⟩, by omega⟩
  · have hw : wholeZ b = none := whole_none hb fun m g1 g2 g3 => hno m g1 (by omega)
    by_cases h4 : n ≤ 4
    · have d1 : decide ((n : Int) ≤ 4) = true := decide_eq_true (by omega)
      have d2 : decide ((n : Int) ≤ b.length) = false := decide_eq_false (by omega)
      simp (disch := omega) only [wk, wt, wl, ↓reduceIte, Nat.reduceEqDiff, Nat.reduceAdd, Nat.zero_add, not_false_eq_true, not_true_eq_false, t0, t5, RdI.len hv' underlying22, d1, d2]
      simp only [wholeT, hw]
      first
        | exact K
        | exact ⟨rfl, K⟩
        | exact ⟨trivial, K⟩
    · have d1 : decide ((n : Int) ≤ 4) = false := decide_eq_false (by omega)
      simp (disch := omega) only [wk, wt, wl, ↓reduceIte, Nat.reduceEqDiff, Nat.reduceAdd, Nat.zero_add, not_false_eq_true, not_true_eq_false, t0, t5, d1]
      simp only [wholeT, hw]
      first
        | exact K
        | exact ⟨rfl, K⟩
        | exact ⟨trivial, K⟩
end Go.Proofs.Ytgllmnckphbkeaa.Am
