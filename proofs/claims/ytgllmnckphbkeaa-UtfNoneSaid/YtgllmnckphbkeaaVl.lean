/- The document's Decode, bytes as text, the examples of the first chapter: contracts, by walks. -/
import Derived.Test.YtgllmnckphbkeaaVk
set_option linter.unusedSimpArgs false
set_option linter.unusedVariables false
set_option maxHeartbeats 4000000
set_option maxRecDepth 20000
namespace Go.Proofs.Ytgllmnckphbkeaa.Am
open Go Go.RowKit Go.Proofs.Try
theorem anums_map : ∀ b : List Int, anums (b.map (Value.int .u8)) = some b
  | [] => rfl
  | x :: b => by simp [anums, anums_map b]
theorem conv_str {h : Heap} {v : Value} {b : List Int} (R : RdI prog h .u8 v b) : aconv prog h 22 9 v = some (.string (strOfNums b)) := by
  obtain ⟨hl, h3⟩ := R
  rcases h3 with ⟨h0, rfl | rfl⟩ | ⟨b', o, c, k, rfl, hb, hk, hlv, ha, ho, hc⟩
  · have : b = [] := List.eq_nil_of_length_eq_zero h0
    subst this
    simp [aconv, underlying22, underlying9, underlying5, isU8]; rfl
  · have : b = [] := List.eq_nil_of_length_eq_zero h0
    subst this
    simp [aconv, underlying22, underlying9, underlying5, isU8]; rfl
  · simp only [Nat.mul_one] at ho hc
    simp only [aconv, underlying22, underlying9, underlying5, isU8, hk, hlv, ho, and_self, if_true, hc, anums_map]
theorem refDecode_ok {b : List Int} {bv : Value} {h : Heap} (hB : RdI prog h .u8 bv b) (hbB : ∀ x, x ∈ b → isB x) (hb : b.length ≤ 900000000) :
    ACalls prog 12 #[bv] h (fun v h' => ∃ l, RDec b l ∧ RdI prog h' .i32 v l ∧ l.length ≤ b.length ∧ Keeps h h') := by
  refine acalls_of_W' func12 rfl (by kernel_rfl) (by kernel_rfl) (by simp [ntmps12]) ?_
  intro H
  simp only [wk, wt, wl, ↓reduceIte, Nat.reduceEqDiff, Nat.reduceAdd, Nat.zero_add, not_false_eq_true, not_true_eq_false]
  refine W_loop (fun tm h' => Keeps h h' ∧ ∃ (cv v : Value) (cur l : List Int), tm 0 = cv ∧ tm 3 = v ∧ RdI prog h' .u8 cv cur ∧ (∀ x, x ∈ cur → isB x) ∧ l.length + cur.length ≤ b.length ∧ Own prog h.size h' 1 v l.length (vI l) ∧ (∀ l', RDec cur l' → RDec b (l ++ l')) ∧ abuiltin prog .len #[22] #[tm 0] = some (.int .i64 cur.length)) (fun tm _ => match abuiltin prog .len #[22] #[tm 0] with | some (.int _ n) => n.toNat | _ => 0)
    ⟨Keeps.refl H, bv, .slice none 0 0, b, [], (by first | rfl | (simp only [wk, wt, wl, ↓reduceIte, Nat.reduceEqDiff, Nat.reduceAdd, Nat.zero_add, not_false_eq_true, not_true_eq_false]; done) | (simp only [wk, wt, wl, ↓reduceIte, Nat.reduceEqDiff, Nat.reduceAdd, Nat.zero_add, not_false_eq_true, not_true_eq_false]; rfl)), (by first | rfl | (simp only [wk, wt, wl, ↓reduceIte, Nat.reduceEqDiff, Nat.reduceAdd, Nat.zero_add, not_false_eq_true, not_true_eq_false]; done) | (simp only [wk, wt, wl, ↓reduceIte, Nat.reduceEqDiff, Nat.reduceAdd, Nat.zero_add, not_false_eq_true, not_true_eq_false]; rfl)), hB, hbB, by simp, by simpa [vI] using Own.nil0, fun l' g => g, by simp only [wk, wt, wl, ↓reduceIte, Nat.reduceEqDiff, Nat.reduceAdd, Nat.zero_add, not_false_eq_true, not_true_eq_false, RdI.len hB underlying22]⟩ ?_
  rintro tm h' ⟨K, cv, v, cur, l, t0, t3, R, hcB, hlen, O, hdec, hmeas⟩
  simp only [wk, wt, wl, ↓reduceIte, Nat.reduceEqDiff, Nat.reduceAdd, Nat.zero_add, not_false_eq_true, not_true_eq_false, t0, t3, RdI.len R underlying22]
  have tail : ∀ (r : Int) (n : Nat), 1 ≤ n → n ≤ cur.length → (wholeZ cur).getD (65533, 1) = (r, n) → cur ≠ [] → (∀ l', RDec (cur.drop n) l' → RDec b ((l ++ [r]) ++ l')) := fun r n h1 h2 e hne l' g => by
    rw [List.append_assoc]; exact hdec _ (.step hne e g)
  refine condK_dec (fun hd => ?_) (fun hd => ?_)
  · have hne : cur ≠ [] := by rintro rfl; simp at hd
    have hpos : 0 < cur.length := by omega
    simp only [wk, wt, wl, ↓reduceIte, Nat.reduceEqDiff, Nat.reduceAdd, Nat.zero_add, not_false_eq_true, not_true_eq_false, t0, t3]
    refine (whole_ok R hcB (by omega)).use ?_
    rintro _ h2 ⟨rfl, K2⟩
    have R2 := R.keeps K2
    have O2 := O.keeps K2
    have KK := K.trans K2
    cases hw : wholeZ cur with
    | some p =>
      obtain ⟨r, n⟩ := p
      obtain ⟨g1, g2, g3, _, _⟩ := whole_cases hcB hw
      simp only [wholeT, hw]
      simp only [wk, wt, wl, ↓reduceIte, Nat.reduceEqDiff, Nat.reduceAdd, Nat.zero_add, not_false_eq_true, not_true_eq_false, t0, t3, Bool.not_true]
      obtain ⟨v4, h4, e4, O4, C4, R4, _⟩ := O2.append1 (P := prog) (Ch.wf KK) (Ch.le KK) underlying24 elem21 fits21 (by decide) (by decide) (xs := [.int .i32 r]) rfl (by omega)
      rw [e4]; clear e4
      have K4 := KK.step C4 fun b hb => hb.2
      have R5 := Rd.reads R2 C4.le R4
      have P5 := RdI.partLo R5 g3
      simp (disch := omega) only [wk, wt, wl, ↓reduceIte, Nat.reduceEqDiff, Nat.reduceAdd, Nat.zero_add, not_false_eq_true, not_true_eq_false, t0, t3, Rd.sliceLo R5 underlying22 asz5 (q := .i64) (i := (n : Int)), Int.toNat_natCast]
      have L5 := RdI.len P5 underlying22
      have tl := tail r n g1 g3 (by rw [hw]; rfl) hne
      refine ⟨⟨K4, _, v4, cur.drop n, l ++ [r], rfl, rfl, P5, fun x hx => hcB x (List.mem_of_mem_drop hx), by simp only [List.length_append, List.length_singleton, List.length_drop]; omega, by rw [vI_append, List.length_append]; exact O4, tl, L5⟩, ?_⟩
      simp only [RdI.len R underlying22, L5, Int.toNat_natCast, List.length_drop]; omega
    | none =>
      simp only [wholeT, hw]
      simp only [wk, wt, wl, ↓reduceIte, Nat.reduceEqDiff, Nat.reduceAdd, Nat.zero_add, not_false_eq_true, not_true_eq_false, t0, t3, Bool.not_false]
      obtain ⟨v4, h4, e4, O4, C4, R4, _⟩ := O2.append1 (P := prog) (Ch.wf KK) (Ch.le KK) underlying24 elem21 fits21 (by decide) (by decide) (xs := [.int .i32 65533]) rfl (by omega)
      rw [e4]; clear e4
      have K4 := KK.step C4 fun b hb => hb.2
      have R5 := Rd.reads R2 C4.le R4
      have P5 := RdI.partLo R5 (L := 1) hpos
      simp (disch := omega) only [wk, wt, wl, ↓reduceIte, Nat.reduceEqDiff, Nat.reduceAdd, Nat.zero_add, not_false_eq_true, not_true_eq_false, t0, t3, Rd.sliceLo R5 underlying22 asz5 (q := .i64) (i := 1), Int.toNat_one]
      have L5 := RdI.len P5 underlying22
      have tl := tail 65533 1 (by omega) hpos (by rw [hw]; rfl) hne
      refine ⟨⟨K4, _, v4, cur.drop 1, l ++ [65533], rfl, rfl, P5, fun x hx => hcB x (List.mem_of_mem_drop hx), by simp only [List.length_append, List.length_singleton, List.length_drop]; omega, by rw [vI_append, List.length_append]; exact O4, tl, L5⟩, ?_⟩
      simp only [RdI.len R underlying22, L5, Int.toNat_natCast, List.length_drop]; omega
  · have hn : cur = [] := List.eq_nil_of_length_eq_zero (by omega)
    simp only [wk, wt, wl, ↓reduceIte, Nat.reduceEqDiff, Nat.reduceAdd, Nat.zero_add, not_false_eq_true, not_true_eq_false, t3]
    refine ⟨l, ?_, O.1, by omega, K⟩
    subst hn
    simpa using hdec _ .nil
end Go.Proofs.Ytgllmnckphbkeaa.Am
