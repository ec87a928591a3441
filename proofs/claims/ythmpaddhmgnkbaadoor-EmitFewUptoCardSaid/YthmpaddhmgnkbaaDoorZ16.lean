/- The texts of this seat, one behind another (part 16 of 25): the frame (an abstract machine), the contracts of functions, the laws. -/
import Derived.Test.YthmpaddhmgnkbaaDoorZ15
section
/- The document's Most; the law EmitFew. -/
set_option linter.unusedSimpArgs false
set_option linter.unusedVariables false
set_option maxHeartbeats 8000000
set_option maxRecDepth 20000
namespace Go.Proofs.YthmpaddhmgnkbaaDoor.Am
open Go Go.RowKit Go.Proofs.Tryd
def sameQ (o n : GM) : Bool := wholeB o && decide (o.R = n.R) && decide (o.C = n.C)
def qF (o n : GM) (i : Nat) : Bool := !sameQ o n || chgB o.l n.l i
def rowsZ (q : Nat → Bool) (C N r : Nat) : Nat := ((List.range r).filter (rowP q C N)).length
def mostZ (o n : GM) : Int := if o = n then 0 else 32 + 24 * (rowsZ (qF o n) n.C.toNat n.l.length n.R.toNat : Int) + 20 * (cntZ (qF o n) n.l.length : Int)
theorem rowP_succ {q : Nat → Bool} {C i r : Nat} (h : i / C = r) : rowP q C (i + 1) r = (rowP q C i r || q i) := by
  unfold rowP
  rw [List.range_succ, List.any_append]
  simp [h]
theorem rowP_low {q : Nat → Bool} {C r : Nat} (hC : 0 < C) : rowP q C (r * C) r = false := by
  unfold rowP
  rw [List.any_eq_false]
  intro j hj
  rw [List.mem_range] at hj
  simp only [Bool.and_eq_true, decide_eq_true_eq, not_and]
  intro _ e
  have := Nat.div_lt_of_lt_mul (show j < C * r by rw [Nat.mul_comm]; exact hj)
  omega
theorem rowP_high {q : Nat → Bool} {C r N : Nat} (hC : 0 < C) (hN : (r + 1) * C ≤ N) : rowP q C ((r + 1) * C) r = rowP q C N r := by
  cases h : rowP q C N r with
  | true =>
    unfold rowP at h ⊢
    simp only [List.any_eq_true, List.mem_range, Bool.and_eq_true, decide_eq_true_eq] at h ⊢
    obtain ⟨i, hi, hq, hr⟩ := h
    refine ⟨i, ?_, hq, hr⟩
    have k1 := Nat.div_add_mod i C
    have m1 := Nat.mod_lt i hC
    rw [hr] at k1
    rw [Nat.add_mul, Nat.mul_comm r C]; omega
  | false =>
    unfold rowP at h ⊢
    rw [List.any_eq_false] at h ⊢
    intro j hj
    rw [List.mem_range] at hj
    exact h j (List.mem_range.2 (by omega))
theorem rows_succ {q : Nat → Bool} {C N r : Nat} : rowsZ q C N (r + 1) = rowsZ q C N r + if rowP q C N r = true then 1 else 0 := by
  unfold rowsZ
  rw [List.range_succ, List.filter_append, List.length_append]
  cases h : rowP q C N r <;> simp [h]
theorem cnt_le (q : Nat → Bool) (k : Nat) : cntZ q k ≤ k := by
  have := List.length_filter_le q (List.range k)
  rw [List.length_range] at this
  exact this
theorem rows_le (q : Nat → Bool) (C N r : Nat) : rowsZ q C N r ≤ r := by
  have := List.length_filter_le (rowP q C N) (List.range r)
  rw [List.length_range] at this
  exact this
theorem most_ok {h : Heap} {va vb : Value} {o n : GM} (A : GR h va o.l) (B : GR h vb n.l) (To : TxR o.l) (hn : wholeB n = true) (lo : o.l.length ≤ 1000000) :
    ACalls prog 17 #[mV o va, mV n vb] h (fun y h' => y = .int .i64 (mostZ o n) ∧ Keeps h h') := by
  refine acalls_of_W' func17 rfl (by kernel_rfl) (by kernel_rfl) (by simp [ntmps17]) ?_
  intro H
  obtain ⟨hr, hc, hN, _, _, _⟩ := whole_of hn
  obtain ⟨C, hC⟩ : ∃ C : Nat, n.C = (C : Int) := ⟨n.C.toNat, by omega⟩
  obtain ⟨R, hR⟩ : ∃ R : Nat, n.R = (R : Int) := ⟨n.R.toNat, by omega⟩
  have hNat : n.l.length = R * C := by rw [hC, hR] at hN; exact_mod_cast hN
  refine W_cut 3 (fun tm hh => tm 2 = pt h.size ∧ tm 3 = pt (h.size + 1) ∧ tm 5 = .bool (sameQ o n) ∧ Keeps h hh ∧ Var hh h.size (mC o va) ∧ Var hh (h.size + 1) (mC n vb) ∧ o ≠ n) (fun X hX => ?_) ?_
  · simp only [pasteC]
    have o1 := A.one
    have o2 := B.one
    have N1 := Keeps.new H 24 (mC o va)
    have V1 := Var.new (e := 24) H (cs := mC o va)
    have hz1 : (h.new 24 (mC o va)).size = h.size + 1 := rfl
    have N2 := Keeps.new (Ch.wf N1) 24 (mC n vb)
    have V2 := Var.new (e := 24) (Ch.wf N1) (cs := mC n vb)
    rw [hz1] at V2
    have V12 := Keeps.var (Ch.wf N1) N2 V1
    have K2 := N1.trans N2
    obtain ⟨_, _, _, _, _, q2⟩ := grid_load V12
    obtain ⟨_, _, _, _, _, r2⟩ := grid_load V2
    simp only [wk, wt, wl, ↓reduceIte, Nat.reduceEqDiff, Nat.reduceAdd, wz, pt, aeff_box, boxV_mgrid o1, boxV_mgrid o2, hz1, newSz, q2, r2]
    generalize (h.new 24 (mC o va)).new 24 (mC n vb) = h2 at *
    refine (refSame_ok (A.keeps K2) (B.keeps K2) (by omega) To.b).use ?_
    rintro _ h3 ⟨rfl, K23⟩
    have K3 := K2.trans K23
    by_cases cab : o = n
    · have d0 := decide_eq_true cab
      simp only [wk, wt, wl, ↓reduceIte, Nat.reduceEqDiff, Nat.reduceAdd, wz, d0]
      exact ⟨by unfold mostZ; rw [if_pos cab], K3⟩
    have d0 := decide_eq_false cab
    have W1 := Keeps.var (Ch.wf K2) K23 V12
    have W2 := Keeps.var (Ch.wf K2) K23 V2
    obtain ⟨_, _, _, _, _, q3⟩ := grid_load W1
    simp only [wk, wt, wl, ↓reduceIte, Nat.reduceEqDiff, Nat.reduceAdd, wz, d0, pt, q3]
    refine (refRightQ_ok (A.keeps K3) To (by omega)).use ?_
    rintro _ h4 ⟨rfl, K34⟩
    have K4 := K3.trans K34
    have X1 := Keeps.var (Ch.wf K3) K34 W1
    have X2 := Keeps.var (Ch.wf K3) K34 W2
    obtain ⟨x0, x1, _⟩ := grid_load X1
    obtain ⟨y0, y1, _⟩ := grid_load X2
    cases hq : wholeB o with
    | false =>
      have es : sameQ o n = false := by unfold sameQ; rw [hq]; rfl
      simp only [wk, wt, wl, ↓reduceIte, Nat.reduceEqDiff, Nat.reduceAdd, wz, pt]
      exact hX _ _ ⟨(by first | rfl | (simp only [wk, wt, wl, ↓reduceIte, Nat.reduceEqDiff, Nat.reduceAdd, wz]; done) | (simp only [wk, wt, wl, ↓reduceIte, Nat.reduceEqDiff, Nat.reduceAdd, wz]; rfl) | (simp only [wk, wt, wl, ↓reduceIte, Nat.reduceEqDiff, Nat.reduceAdd, wz, pt]; done) | (simp only [wk, wt, wl, ↓reduceIte, Nat.reduceEqDiff, Nat.reduceAdd, wz, pt]; rfl)), (by first | rfl | (simp only [wk, wt, wl, ↓reduceIte, Nat.reduceEqDiff, Nat.reduceAdd, wz]; done) | (simp only [wk, wt, wl, ↓reduceIte, Nat.reduceEqDiff, Nat.reduceAdd, wz]; rfl) | (simp only [wk, wt, wl, ↓reduceIte, Nat.reduceEqDiff, Nat.reduceAdd, wz, pt]; done) | (simp only [wk, wt, wl, ↓reduceIte, Nat.reduceEqDiff, Nat.reduceAdd, wz, pt]; rfl)), (by first | rfl | (simp only [wk, wt, wl, ↓reduceIte, Nat.reduceEqDiff, Nat.reduceAdd, wz]; done) | (simp only [wk, wt, wl, ↓reduceIte, Nat.reduceEqDiff, Nat.reduceAdd, wz]; rfl) | (simp only [wk, wt, wl, ↓reduceIte, Nat.reduceEqDiff, Nat.reduceAdd, wz, es]; done) | (simp only [wk, wt, wl, ↓reduceIte, Nat.reduceEqDiff, Nat.reduceAdd, wz, es]; rfl)), K4, X1, X2, cab⟩
    | true =>
    by_cases cR : o.R = n.R
    case neg =>
      have d1 := decide_eq_false cR
      have es : sameQ o n = false := by unfold sameQ; rw [d1]; simp
      simp only [wk, wt, wl, ↓reduceIte, Nat.reduceEqDiff, Nat.reduceAdd, wz, pt, x0, y0, d1]
      exact hX _ _ ⟨(by first | rfl | (simp only [wk, wt, wl, ↓reduceIte, Nat.reduceEqDiff, Nat.reduceAdd, wz]; done) | (simp only [wk, wt, wl, ↓reduceIte, Nat.reduceEqDiff, Nat.reduceAdd, wz]; rfl) | (simp only [wk, wt, wl, ↓reduceIte, Nat.reduceEqDiff, Nat.reduceAdd, wz, pt]; done) | (simp only [wk, wt, wl, ↓reduceIte, Nat.reduceEqDiff, Nat.reduceAdd, wz, pt]; rfl)), (by first | rfl | (simp only [wk, wt, wl, ↓reduceIte, Nat.reduceEqDiff, Nat.reduceAdd, wz]; done) | (simp only [wk, wt, wl, ↓reduceIte, Nat.reduceEqDiff, Nat.reduceAdd, wz]; rfl) | (simp only [wk, wt, wl, ↓reduceIte, Nat.reduceEqDiff, Nat.reduceAdd, wz, pt]; done) | (simp only [wk, wt, wl, ↓reduceIte, Nat.reduceEqDiff, Nat.reduceAdd, wz, pt]; rfl)), (by first | rfl | (simp only [wk, wt, wl, ↓reduceIte, Nat.reduceEqDiff, Nat.reduceAdd, wz]; done) | (simp only [wk, wt, wl, ↓reduceIte, Nat.reduceEqDiff, Nat.reduceAdd, wz]; rfl) | (simp only [wk, wt, wl, ↓reduceIte, Nat.reduceEqDiff, Nat.reduceAdd, wz, es]; done) | (simp only [wk, wt, wl, ↓reduceIte, Nat.reduceEqDiff, Nat.reduceAdd, wz, es]; rfl)), K4, X1, X2, cab⟩
    have d1 := decide_eq_true cR
    by_cases cC : o.C = n.C
    case neg =>
      have d2 := decide_eq_false cC
      have es : sameQ o n = false := by unfold sameQ; rw [d2]; simp
      simp only [wk, wt, wl, ↓reduceIte, Nat.reduceEqDiff, Nat.reduceAdd, wz, pt, x0, y0, d1, x1, y1, d2]
      exact hX _ _ ⟨(by first | rfl | (simp only [wk, wt, wl, ↓reduceIte, Nat.reduceEqDiff, Nat.reduceAdd, wz]; done) | (simp only [wk, wt, wl, ↓reduceIte, Nat.reduceEqDiff, Nat.reduceAdd, wz]; rfl) | (simp only [wk, wt, wl, ↓reduceIte, Nat.reduceEqDiff, Nat.reduceAdd, wz, pt]; done) | (simp only [wk, wt, wl, ↓reduceIte, Nat.reduceEqDiff, Nat.reduceAdd, wz, pt]; rfl)), (by first | rfl | (simp only [wk, wt, wl, ↓reduceIte, Nat.reduceEqDiff, Nat.reduceAdd, wz]; done) | (simp only [wk, wt, wl, ↓reduceIte, Nat.reduceEqDiff, Nat.reduceAdd, wz]; rfl) | (simp only [wk, wt, wl, ↓reduceIte, Nat.reduceEqDiff, Nat.reduceAdd, wz, pt]; done) | (simp only [wk, wt, wl, ↓reduceIte, Nat.reduceEqDiff, Nat.reduceAdd, wz, pt]; rfl)), (by first | rfl | (simp only [wk, wt, wl, ↓reduceIte, Nat.reduceEqDiff, Nat.reduceAdd, wz]; done) | (simp only [wk, wt, wl, ↓reduceIte, Nat.reduceEqDiff, Nat.reduceAdd, wz]; rfl) | (simp only [wk, wt, wl, ↓reduceIte, Nat.reduceEqDiff, Nat.reduceAdd, wz, es]; done) | (simp only [wk, wt, wl, ↓reduceIte, Nat.reduceEqDiff, Nat.reduceAdd, wz, es]; rfl)), K4, X1, X2, cab⟩
    have d2 := decide_eq_true cC
    have es : sameQ o n = true := by unfold sameQ; rw [hq, d1, d2]; rfl
    simp only [wk, wt, wl, ↓reduceIte, Nat.reduceEqDiff, Nat.reduceAdd, wz, pt, x0, y0, d1, x1, y1, d2]
    exact hX _ _ ⟨(by first | rfl | (simp only [wk, wt, wl, ↓reduceIte, Nat.reduceEqDiff, Nat.reduceAdd, wz]; done) | (simp only [wk, wt, wl, ↓reduceIte, Nat.reduceEqDiff, Nat.reduceAdd, wz]; rfl) | (simp only [wk, wt, wl, ↓reduceIte, Nat.reduceEqDiff, Nat.reduceAdd, wz, pt]; done) | (simp only [wk, wt, wl, ↓reduceIte, Nat.reduceEqDiff, Nat.reduceAdd, wz, pt]; rfl)), (by first | rfl | (simp only [wk, wt, wl, ↓reduceIte, Nat.reduceEqDiff, Nat.reduceAdd, wz]; done) | (simp only [wk, wt, wl, ↓reduceIte, Nat.reduceEqDiff, Nat.reduceAdd, wz]; rfl) | (simp only [wk, wt, wl, ↓reduceIte, Nat.reduceEqDiff, Nat.reduceAdd, wz, pt]; done) | (simp only [wk, wt, wl, ↓reduceIte, Nat.reduceEqDiff, Nat.reduceAdd, wz, pt]; rfl)), (by first | rfl | (simp only [wk, wt, wl, ↓reduceIte, Nat.reduceEqDiff, Nat.reduceAdd, wz]; done) | (simp only [wk, wt, wl, ↓reduceIte, Nat.reduceEqDiff, Nat.reduceAdd, wz]; rfl) | (simp only [wk, wt, wl, ↓reduceIte, Nat.reduceEqDiff, Nat.reduceAdd, wz, es]; done) | (simp only [wk, wt, wl, ↓reduceIte, Nat.reduceEqDiff, Nat.reduceAdd, wz, es]; rfl)), K4, X1, X2, cab⟩
  · rintro tm h4 ⟨t2, t3, t5, K4, X1, X2, cab⟩
    simp only [tailC]
    have hC1 : 2 ≤ C ∧ C ≤ 1000 := by omega
    have hR1 : R ≤ 500 := by omega
    have hRC : R * C ≤ 500 * 1000 := Nat.mul_le_mul hR1 hC1.2
    have z1 : rowsZ (qF o n) C n.l.length 0 = 0 := rfl
    have z2 : cntZ (qF o n) (0 * C) = 0 := by rw [Nat.zero_mul]; rfl
    simp only [wk, wt, wl, ↓reduceIte, Nat.reduceEqDiff, Nat.reduceAdd, wz]
    refine W_loop (fun tm hh => tm 2 = pt h.size ∧ tm 3 = pt (h.size + 1) ∧ tm 5 = .bool (sameQ o n) ∧ Keeps h hh ∧ Var hh h.size (mC o va) ∧ Var hh (h.size + 1) (mC n vb) ∧ ∃ r : Nat, tm 8 = .int .i64 (r : Int) ∧ r ≤ R ∧ tm 6 = .int .i64 (rowsZ (qF o n) C n.l.length r : Int) ∧ tm 7 = .int .i64 (cntZ (qF o n) (r * C) : Int)) (fun tm _ => (R - intOf (tm 8)).toNat)
      ⟨(by first | rfl | (simp only [wk, wt, wl, ↓reduceIte, Nat.reduceEqDiff, Nat.reduceAdd, wz]; done) | (simp only [wk, wt, wl, ↓reduceIte, Nat.reduceEqDiff, Nat.reduceAdd, wz]; rfl) | (simp only [wk, wt, wl, ↓reduceIte, Nat.reduceEqDiff, Nat.reduceAdd, wz, t2]; done) | (simp only [wk, wt, wl, ↓reduceIte, Nat.reduceEqDiff, Nat.reduceAdd, wz, t2]; rfl)), (by first | rfl | (simp only [wk, wt, wl, ↓reduceIte, Nat.reduceEqDiff, Nat.reduceAdd, wz]; done) | (simp only [wk, wt, wl, ↓reduceIte, Nat.reduceEqDiff, Nat.reduceAdd, wz]; rfl) | (simp only [wk, wt, wl, ↓reduceIte, Nat.reduceEqDiff, Nat.reduceAdd, wz, t3]; done) | (simp only [wk, wt, wl, ↓reduceIte, Nat.reduceEqDiff, Nat.reduceAdd, wz, t3]; rfl)), (by first | rfl | (simp only [wk, wt, wl, ↓reduceIte, Nat.reduceEqDiff, Nat.reduceAdd, wz]; done) | (simp only [wk, wt, wl, ↓reduceIte, Nat.reduceEqDiff, Nat.reduceAdd, wz]; rfl) | (simp only [wk, wt, wl, ↓reduceIte, Nat.reduceEqDiff, Nat.reduceAdd, wz, t5]; done) | (simp only [wk, wt, wl, ↓reduceIte, Nat.reduceEqDiff, Nat.reduceAdd, wz, t5]; rfl)), K4, X1, X2, 0, (by first | rfl | (simp only [wk, wt, wl, ↓reduceIte, Nat.reduceEqDiff, Nat.reduceAdd, wz]; done) | (simp only [wk, wt, wl, ↓reduceIte, Nat.reduceEqDiff, Nat.reduceAdd, wz]; rfl)), by omega, (by first | rfl | (simp only [wk, wt, wl, ↓reduceIte, Nat.reduceEqDiff, Nat.reduceAdd, wz]; done) | (simp only [wk, wt, wl, ↓reduceIte, Nat.reduceEqDiff, Nat.reduceAdd, wz]; rfl) | (simp only [wk, wt, wl, ↓reduceIte, Nat.reduceEqDiff, Nat.reduceAdd, wz, z1]; done) | (simp only [wk, wt, wl, ↓reduceIte, Nat.reduceEqDiff, Nat.reduceAdd, wz, z1]; rfl)), (by first | rfl | (simp only [wk, wt, wl, ↓reduceIte, Nat.reduceEqDiff, Nat.reduceAdd, wz]; done) | (simp only [wk, wt, wl, ↓reduceIte, Nat.reduceEqDiff, Nat.reduceAdd, wz]; rfl) | (simp only [wk, wt, wl, ↓reduceIte, Nat.reduceEqDiff, Nat.reduceAdd, wz, z2]; done) | (simp only [wk, wt, wl, ↓reduceIte, Nat.reduceEqDiff, Nat.reduceAdd, wz, z2]; rfl))⟩ ?_
    clear X1 X2 K4 t2 t3 t5
    rintro tm hh ⟨t2, t3, t5, K, U1, U2, r, t8, hr', t6, t7⟩
    obtain ⟨y0, y1, y2, _⟩ := grid_load U2
    obtain ⟨_, _, x2, _⟩ := grid_load U1
    rw [hR] at y0
    rw [hC] at y1
    have HK := Ch.wf K
    have rl := rows_le (qF o n) C n.l.length r
    have hrC : r * C ≤ R * C := Nat.mul_le_mul_right C hr'
    have cl := cnt_le (qF o n) (r * C)
    by_cases c1 : (r : Int) < (R : Int)
    case neg =>
      have d1 := decide_eq_false c1
      obtain rfl : r = R := by omega
      have w1 : IntKind.i64.wrap (24 * (rowsZ (qF o n) C n.l.length r : Int)) = 24 * (rowsZ (qF o n) C n.l.length r : Int) := IntWalk.i64_in _ (by omega)
      have w2 : IntKind.i64.wrap (32 + 24 * (rowsZ (qF o n) C n.l.length r : Int)) = 32 + 24 * (rowsZ (qF o n) C n.l.length r : Int) := IntWalk.i64_in _ (by omega)
      have w3 : IntKind.i64.wrap (20 * (cntZ (qF o n) (r * C) : Int)) = 20 * (cntZ (qF o n) (r * C) : Int) := IntWalk.i64_in _ (by omega)
      have w4 : IntKind.i64.wrap (32 + 24 * (rowsZ (qF o n) C n.l.length r : Int) + 20 * (cntZ (qF o n) (r * C) : Int)) = 32 + 24 * (rowsZ (qF o n) C n.l.length r : Int) + 20 * (cntZ (qF o n) (r * C) : Int) := IntWalk.i64_in _ (by omega)
      simp only [wk, wt, wl, ↓reduceIte, Nat.reduceEqDiff, Nat.reduceAdd, wz, t2, t3, t5, t6, t7, t8, pt, y0, d1, w1, w2, w3, w4]
      refine ⟨?_, K⟩
      unfold mostZ
      rw [if_neg cab, hC, hR, Int.toNat_natCast, Int.toNat_natCast, ← hNat]
    have d1 := decide_eq_true c1
    have hr1 : (r + 1) * C ≤ R * C := Nat.mul_le_mul_right C (by omega)
    have e1 : (r + 1) * C = r * C + C := by rw [Nat.add_mul]; omega
    have w1 : IntKind.i64.wrap ((r : Int) * (C : Int)) = ((r * C : Nat) : Int) := by
      have : (r : Int) * (C : Int) = ((r * C : Nat) : Int) := rfl
      rw [this, IntWalk.i64_in _ (by omega)]
    have w2 : IntKind.i64.wrap ((r : Int) + 1) = ((r + 1 : Nat) : Int) := by rw [IntWalk.i64_in _ (by omega)]; omega
    have w3 : IntKind.i64.wrap (((r + 1 : Nat) : Int) * (C : Int)) = (((r + 1) * C : Nat) : Int) := by
      have : ((r + 1 : Nat) : Int) * (C : Int) = (((r + 1) * C : Nat) : Int) := rfl
      rw [this, IntWalk.i64_in _ (by omega)]
    have lo1 := rowP_low (q := qF o n) (r := r) (show 0 < C by omega)
    simp only [wk, wt, wl, ↓reduceIte, Nat.reduceEqDiff, Nat.reduceAdd, wz, t2, t3, t5, t6, t7, t8, pt, y0, d1, y1, w1]
    refine W_loop (fun tm hh => tm 2 = pt h.size ∧ tm 3 = pt (h.size + 1) ∧ tm 5 = .bool (sameQ o n) ∧ Keeps h hh ∧ Var hh h.size (mC o va) ∧ Var hh (h.size + 1) (mC n vb) ∧ tm 8 = .int .i64 (r : Int) ∧ tm 6 = .int .i64 (rowsZ (qF o n) C n.l.length r : Int) ∧ ∃ i : Nat, tm 10 = .int .i64 (i : Int) ∧ r * C ≤ i ∧ i ≤ (r + 1) * C ∧ tm 9 = .bool (rowP (qF o n) C i r) ∧ tm 7 = .int .i64 (cntZ (qF o n) i : Int)) (fun tm _ => (((r + 1) * C : Nat) - intOf (tm 10)).toNat)
      ⟨(by first | rfl | (simp only [wk, wt, wl, ↓reduceIte, Nat.reduceEqDiff, Nat.reduceAdd, wz]; done) | (simp only [wk, wt, wl, ↓reduceIte, Nat.reduceEqDiff, Nat.reduceAdd, wz]; rfl) | (simp only [wk, wt, wl, ↓reduceIte, Nat.reduceEqDiff, Nat.reduceAdd, wz, t2, pt]; done) | (simp only [wk, wt, wl, ↓reduceIte, Nat.reduceEqDiff, Nat.reduceAdd, wz, t2, pt]; rfl)), (by first | rfl | (simp only [wk, wt, wl, ↓reduceIte, Nat.reduceEqDiff, Nat.reduceAdd, wz]; done) | (simp only [wk, wt, wl, ↓reduceIte, Nat.reduceEqDiff, Nat.reduceAdd, wz]; rfl) | (simp only [wk, wt, wl, ↓reduceIte, Nat.reduceEqDiff, Nat.reduceAdd, wz, t3, pt]; done) | (simp only [wk, wt, wl, ↓reduceIte, Nat.reduceEqDiff, Nat.reduceAdd, wz, t3, pt]; rfl)), (by first | rfl | (simp only [wk, wt, wl, ↓reduceIte, Nat.reduceEqDiff, Nat.reduceAdd, wz]; done) | (simp only [wk, wt, wl, ↓reduceIte, Nat.reduceEqDiff, Nat.reduceAdd, wz]; rfl) | (simp only [wk, wt, wl, ↓reduceIte, Nat.reduceEqDiff, Nat.reduceAdd, wz, t5]; done) | (simp only [wk, wt, wl, ↓reduceIte, Nat.reduceEqDiff, Nat.reduceAdd, wz, t5]; rfl)), K, U1, U2, (by first | rfl | (simp only [wk, wt, wl, ↓reduceIte, Nat.reduceEqDiff, Nat.reduceAdd, wz]; done) | (simp only [wk, wt, wl, ↓reduceIte, Nat.reduceEqDiff, Nat.reduceAdd, wz]; rfl) | (simp only [wk, wt, wl, ↓reduceIte, Nat.reduceEqDiff, Nat.reduceAdd, wz, t8]; done) | (simp only [wk, wt, wl, ↓reduceIte, Nat.reduceEqDiff, Nat.reduceAdd, wz, t8]; rfl)), (by first | rfl | (simp only [wk, wt, wl, ↓reduceIte, Nat.reduceEqDiff, Nat.reduceAdd, wz]; done) | (simp only [wk, wt, wl, ↓reduceIte, Nat.reduceEqDiff, Nat.reduceAdd, wz]; rfl) | (simp only [wk, wt, wl, ↓reduceIte, Nat.reduceEqDiff, Nat.reduceAdd, wz, t6]; done) | (simp only [wk, wt, wl, ↓reduceIte, Nat.reduceEqDiff, Nat.reduceAdd, wz, t6]; rfl)), r * C, (by first | rfl | (simp only [wk, wt, wl, ↓reduceIte, Nat.reduceEqDiff, Nat.reduceAdd, wz]; done) | (simp only [wk, wt, wl, ↓reduceIte, Nat.reduceEqDiff, Nat.reduceAdd, wz]; rfl)), Nat.le_refl _, by omega, (by first | rfl | (simp only [wk, wt, wl, ↓reduceIte, Nat.reduceEqDiff, Nat.reduceAdd, wz]; done) | (simp only [wk, wt, wl, ↓reduceIte, Nat.reduceEqDiff, Nat.reduceAdd, wz]; rfl) | (simp only [wk, wt, wl, ↓reduceIte, Nat.reduceEqDiff, Nat.reduceAdd, wz, lo1]; done) | (simp only [wk, wt, wl, ↓reduceIte, Nat.reduceEqDiff, Nat.reduceAdd, wz, lo1]; rfl)), (by first | rfl | (simp only [wk, wt, wl, ↓reduceIte, Nat.reduceEqDiff, Nat.reduceAdd, wz]; done) | (simp only [wk, wt, wl, ↓reduceIte, Nat.reduceEqDiff, Nat.reduceAdd, wz]; rfl) | (simp only [wk, wt, wl, ↓reduceIte, Nat.reduceEqDiff, Nat.reduceAdd, wz, t7]; done) | (simp only [wk, wt, wl, ↓reduceIte, Nat.reduceEqDiff, Nat.reduceAdd, wz, t7]; rfl))⟩ ?_
    clear U1 U2 K t2 t3 t5 t6 t7 t8 y0 y1 y2 x2 HK
    rintro tm hh ⟨t2, t3, t5, K, U1, U2, t8, t6, i, t10, hi0, hi1, t9, t7⟩
    obtain ⟨_, y1, y2, _⟩ := grid_load U2
    obtain ⟨_, _, x2, _⟩ := grid_load U1
    rw [hC] at y1
    have HK := Ch.wf K
    have ci := cnt_le (qF o n) i
    by_cases c2 : (i : Int) < (((r + 1) * C : Nat) : Int)
    case neg =>
      have d2 := decide_eq_false c2
      obtain rfl : i = (r + 1) * C := by omega
      have hi := rowP_high (q := qF o n) (r := r) (N := n.l.length) (show 0 < C by omega) (by omega)
      have rs := rows_succ (q := qF o n) (C := C) (N := n.l.length) (r := r)
      rw [hi] at t9
      cases hb : rowP (qF o n) C n.l.length r with
      | true =>
        rw [hb] at t9 rs
        rw [if_pos rfl] at rs
        have w4 : IntKind.i64.wrap ((rowsZ (qF o n) C n.l.length r : Int) + 1) = (rowsZ (qF o n) C n.l.length (r + 1) : Int) := by rw [rs, IntWalk.i64_in _ (by omega)]; omega
        simp only [wk, wt, wl, ↓reduceIte, Nat.reduceEqDiff, Nat.reduceAdd, wz, t2, t3, t5, t6, t7, t8, t9, t10, pt, y1, w2, w3, d2, w4, intOf_int]
        exact ⟨⟨K, U1, U2, r + 1, rfl, by omega, rfl, rfl⟩, by omega⟩
      | false =>
        rw [hb] at t9 rs
        rw [if_neg (by decide), Nat.add_zero] at rs
        simp only [wk, wt, wl, ↓reduceIte, Nat.reduceEqDiff, Nat.reduceAdd, wz, t2, t3, t5, t6, t7, t8, t9, t10, pt, y1, w2, w3, d2, intOf_int]
        exact ⟨⟨K, U1, U2, r + 1, rfl, by omega, by rw [rs]; rfl, rfl⟩, by omega⟩
    have d2 := decide_eq_true c2
    have hiN : i < n.l.length := by omega
    have hdiv : i / C = r := by
      have : i = C * r + (i - r * C) := by rw [Nat.mul_comm]; omega
      rw [this, Nat.mul_add_div (by omega), Nat.div_eq_of_lt (by omega)]; omega
    have rp := rowP_succ (q := qF o n) hdiv
    have cs := cnt_succ (qF o n) i
    have wi : IntKind.i64.wrap ((i : Int) + 1) = ((i + 1 : Nat) : Int) := by rw [IntWalk.i64_in _ (by omega)]; omega
    have yes : qF o n i = true → IntKind.i64.wrap ((cntZ (qF o n) i : Int) + 1) = (cntZ (qF o n) (i + 1) : Int) ∧ rowP (qF o n) C (i + 1) r = true := fun q => by
      rw [q, if_pos rfl] at cs
      rw [q, Bool.or_true] at rp
      exact ⟨by rw [cs, IntWalk.i64_in _ (by omega)]; omega, rp⟩
    have no : qF o n i = false → cntZ (qF o n) (i + 1) = cntZ (qF o n) i ∧ rowP (qF o n) C (i + 1) r = rowP (qF o n) C i r := fun q => by
      rw [q, if_neg (by decide)] at cs
      rw [q, Bool.or_false] at rp
      exact ⟨cs, rp⟩
    simp only [wk, wt, wl, ↓reduceIte, Nat.reduceEqDiff, Nat.reduceAdd, wz, t2, t3, t5, t6, t7, t8, t9, t10, pt, y1, w2, w3, d2]
    cases hs : sameQ o n with
    | false =>
      have q : qF o n i = true := by unfold qF; rw [hs]; rfl
      obtain ⟨wc, rr⟩ := yes q
      rw [hs] at t5
      refine adraw_order [(0, false), (1, false), (2, false), (3, false), (4, false), (5, false), (6, false), (7, false), (8, false), (9, false), (10, false), (11, false), (12, false), (13, false), (14, false), (15, false)] mixed (by kernel_rfl) (by kernel_rfl) (by kernel_rfl) (by with_reducible repeat (first | exact PF_retK | refine PF_thenK ?_ | refine PF_blockK ?_)) ?_
      simp only [wk, wt, wl, ↓reduceIte, Nat.reduceEqDiff, Nat.reduceAdd, wz, dK_t, t2, t3, t5, t6, t7, t8, t9, t10, pt, Bool.not_false, wc, wi, intOf_int]
      exact ⟨⟨K, U1, U2, i + 1, rfl, by omega, by omega, by rw [rr], rfl⟩, by omega⟩
    | true =>
      rw [hs] at t5
      have hs' := hs
      unfold sameQ at hs'
      simp only [Bool.and_eq_true, decide_eq_true_eq] at hs'
      have hol : o.l.length = n.l.length := by
        have := (whole_of hs'.1.1).2.2.1
        rw [hs'.1.2, hs'.2] at this
        omega
      obtain ⟨c, hc1⟩ : ∃ c, o.l[i]? = some c := ⟨_, List.getElem?_eq_getElem (by omega)⟩
      obtain ⟨d, hd1⟩ : ∃ d, n.l[i]? = some d := ⟨_, List.getElem?_eq_getElem hiN⟩
      obtain ⟨tc, XC, LC, IC, _⟩ := (A.keeps K).at hc1
      obtain ⟨td, XD, LD, ID, _⟩ := (B.keeps K).at hd1
      have hchg : qF o n i = !decide (c = d) := by
        unfold qF chgB
        rw [hs, hc1, hd1]
        by_cases e : c = d
        · simp [e]
        · simp [e]
      refine adraw_order [(0, false), (1, false), (2, false), (3, false), (4, false), (5, false), (6, false), (7, false), (8, false), (9, false), (10, false), (11, false), (12, false), (13, false), (14, false), (15, false)] mixed (by kernel_rfl) (by kernel_rfl) (by kernel_rfl) (by with_reducible repeat (first | exact PF_retK | refine PF_thenK ?_ | refine PF_blockK ?_)) ?_
      simp only [wk, wt, wl, ↓reduceIte, Nat.reduceEqDiff, Nat.reduceAdd, wz, dK_t, t2, t3, t5, t6, t7, t8, t9, t10, pt, Bool.not_true, x2, y2, IC, LC, ID, LD]
      refine (refCell_ok XC XD (by have := (To c (List.mem_of_getElem? hc1)).2; omega)).use ?_
      rintro _ h9 ⟨rfl, K9⟩
      have K09 := K.trans K9
      have P1 := Keeps.var HK K9 U1
      have P2 := Keeps.var HK K9 U2
      by_cases e : c = d
      · have q : qF o n i = false := by rw [hchg, decide_eq_true e]; rfl
        obtain ⟨n1, n2⟩ := no q
        have de := decide_eq_true e
        simp only [wk, wt, wl, ↓reduceIte, Nat.reduceEqDiff, Nat.reduceAdd, wz, dK_t, t2, t3, t5, t6, t7, t8, t9, t10, pt, de, Bool.not_true, wi, intOf_int]
        exact ⟨⟨K09, P1, P2, i + 1, rfl, by omega, by omega, by rw [n2], by rw [n1]⟩, by omega⟩
      · have q : qF o n i = true := by rw [hchg, decide_eq_false e]; rfl
        obtain ⟨wc, rr⟩ := yes q
        have de := decide_eq_false e
        simp only [wk, wt, wl, ↓reduceIte, Nat.reduceEqDiff, Nat.reduceAdd, wz, dK_t, t2, t3, t5, t6, t7, t8, t9, t10, pt, de, Bool.not_false, wc, wi, intOf_int]
        exact ⟨⟨K09, P1, P2, i + 1, rfl, by omega, by omega, by rw [rr], rfl⟩, by omega⟩
end Go.Proofs.YthmpaddhmgnkbaaDoor.Am
end
section
/- The law EmitFew. -/
set_option linter.unusedSimpArgs false
set_option linter.unusedVariables false
set_option maxHeartbeats 8000000
set_option maxRecDepth 20000
namespace Go.Proofs.YthmpaddhmgnkbaaDoor.Am
open Go Go.RowKit Go.Proofs.Tryd
theorem emit_few {o n : GM} (hn : wholeB n = true) : ((emitL o n).length : Int) ≤ mostZ o n := by
  obtain ⟨hr, hc, hN, _, _, _⟩ := whole_of hn
  obtain ⟨C, hC⟩ : ∃ C : Nat, n.C = (C : Int) := ⟨n.C.toNat, by omega⟩
  obtain ⟨R, hR⟩ : ∃ R : Nat, n.R = (R : Int) := ⟨n.R.toNat, by omega⟩
  have Q := rowQ_of hn
  have Q' := Q
  rw [hC] at Q'
  have hbN : bareB n.l n.l.length = false := by unfold bareB; rw [List.getElem?_eq_none (Nat.le_refl _)]; rfl
  unfold mostZ
  by_cases e : o = n
  · rw [if_pos e, emit_nil.2 (.inr e)]; exact Int.le_refl _
  rw [if_neg e, hC, hR, Int.toNat_natCast, Int.toNat_natCast]
  have h1 : ¬ (wholeB n = false ∨ o = n) := by rw [hn]; simp [e]
  have pl := place_len (i := n.y * n.C + n.x) (C := n.C)
  have go : ∀ (o' : GM) (b : List Int), b.length ≤ 10 → (∀ i, chgB o'.l n.l i = true → qF o n i = true) → ((tailL n (bodyO o' n ⟨b, 0, -1⟩)).length : Int) ≤ 32 + 24 * (rowsZ (qF o n) C n.l.length R : Int) + 20 * (cntZ (qF o n) n.l.length : Int) := fun o' b hb hq => by
    have t := tail_len (n := n) (O := bodyO o' n ⟨b, 0, -1⟩)
    obtain ⟨bf, _⟩ := body_few (o := o') (O := ⟨b, 0, -1⟩) hn hC hR rfl n.l.length (Nat.le_refl _)
    have fc := ful_cnt Q hq n.l.length
    rw [if_neg (fun c => by rw [hbN] at c; cases c.2)] at fc
    have fr := filter_le (p := rowP (fulB o'.l n.l) C n.l.length) (p' := rowP (qF o n) C n.l.length) (fun r h => ful_row (by omega) Q' hq r h) (List.range R)
    have bf' : (bodyO o' n ⟨b, 0, -1⟩).b.length ≤ b.length + 20 * cntZ (fulB o'.l n.l) n.l.length + 6 * ((List.range R).filter (rowP (fulB o'.l n.l) C n.l.length)).length := bf
    unfold rowsZ
    omega
  unfold emitL
  rw [if_neg h1]
  by_cases h2 : wholeB o = true ∧ o.R = n.R ∧ o.C = n.C
  · rw [if_pos h2]
    split
    · omega
    · exact go o hideL (by decide) fun i hi => by unfold qF; rw [hi]; simp
  · rw [if_neg h2]
    refine go _ _ (by decide) fun i hi => ?_
    have : sameQ o n = false := by
      unfold sameQ
      cases hs : (wholeB o && decide (o.R = n.R) && decide (o.C = n.C)) with
      | false => rfl
      | true =>
        simp only [Bool.and_eq_true, decide_eq_true_eq] at hs
        exact absurd ⟨hs.1.1, hs.1.2, hs.2⟩ h2
    unfold qF
    rw [this]; rfl
theorem emitFew_law {h : Heap} {va vb : Value} {o n : GM} (A : GR h va o.l) (B : GR h vb n.l) (To : TxR o.l) (Tn : TxR n.l) (G : Gl h) (Gt0 : Gt h) (lo : o.l.length ≤ 1000000000) (ln : n.l.length ≤ 1000000000) :
    ACalls prog 4 #[mV o va, mV n vb] h (fun y h' => y = .bool true ∧ Keeps h h') := by
  refine acalls_of_W' func4 rfl (by kernel_rfl) (by kernel_rfl) (by simp [ntmps4]) ?_
  intro H
  have o1 := A.one
  have o2 := B.one
  have N1 := Keeps.new H 24 (mC o va)
  have V1 := Var.new (e := 24) H (cs := mC o va)
  have hz1 : (h.new 24 (mC o va)).size = h.size + 1 := rfl
  have N2 := Keeps.new (Ch.wf N1) 24 (mC n vb)
  have V2 := Var.new (e := 24) (Ch.wf N1) (cs := mC n vb)
  rw [hz1] at V2
  have V12 := Keeps.var (Ch.wf N1) N2 V1
  have K2 := N1.trans N2
  obtain ⟨_, _, _, _, _, q2⟩ := grid_load V12
  simp only [wk, wt, wl, ↓reduceIte, Nat.reduceEqDiff, Nat.reduceAdd, wz, pt, aeff_box, boxV_mgrid o1, boxV_mgrid o2, hz1, newSz, q2]
  generalize (h.new 24 (mC o va)).new 24 (mC n vb) = h2 at *
  refine (few22_ok (A.keeps K2)).use ?_
  rintro _ h3 ⟨rfl, K23⟩
  have K3 := K2.trans K23
  have W2 := Keeps.var (Ch.wf K2) K23 V2
  obtain ⟨_, _, _, _, _, r3⟩ := grid_load W2
  by_cases c1 : (o.l.length : Int) ≤ 20000
  case neg =>
    have d1 := decide_eq_false c1
    simp only [wk, wt, wl, ↓reduceIte, Nat.reduceEqDiff, Nat.reduceAdd, wz, d1, Bool.not_false]
    exact K3
  have d1 := decide_eq_true c1
  simp only [wk, wt, wl, ↓reduceIte, Nat.reduceEqDiff, Nat.reduceAdd, wz, d1, Bool.not_true, pt, r3]
  refine (few22_ok (B.keeps K3)).use ?_
  rintro _ h4 ⟨rfl, K34⟩
  have K4 := K3.trans K34
  have X1 := Keeps.var (Ch.wf K2) (K23.trans K34) V12
  have X2 := Keeps.var (Ch.wf K2) (K23.trans K34) V2
  obtain ⟨_, _, _, _, _, r4⟩ := grid_load X2
  by_cases c2 : (n.l.length : Int) ≤ 20000
  case neg =>
    have d2 := decide_eq_false c2
    simp only [wk, wt, wl, ↓reduceIte, Nat.reduceEqDiff, Nat.reduceAdd, wz, d2, Bool.not_false]
    exact K4
  have d2 := decide_eq_true c2
  simp only [wk, wt, wl, ↓reduceIte, Nat.reduceEqDiff, Nat.reduceAdd, wz, d2, Bool.not_true, pt, r4]
  refine (refRightQ_ok (B.keeps K4) Tn (by omega)).use ?_
  rintro _ h5 ⟨rfl, K45⟩
  have K5 := K4.trans K45
  have Y1 := Keeps.var (Ch.wf K4) K45 X1
  have Y2 := Keeps.var (Ch.wf K4) K45 X2
  obtain ⟨_, _, _, _, _, q5⟩ := grid_load Y1
  obtain ⟨_, _, _, _, _, r5⟩ := grid_load Y2
  have H5 := Ch.wf K5
  cases hq : wholeB n with
  | false =>
    simp only [wk, wt, wl, ↓reduceIte, Nat.reduceEqDiff, Nat.reduceAdd, wz, Bool.not_false]
    exact K5
  | true =>
  have dm := decide_eq_true (emit_few (o := o) hq)
  simp only [wk, wt, wl, ↓reduceIte, Nat.reduceEqDiff, Nat.reduceAdd, wz, Bool.not_true]
  refine adraw_order [(0, false), (1, false), (4, false), (5, false), (2, true), (3, false), (6, false), (7, false), (8, false), (9, true), (10, false), (11, false)] mixed (by kernel_rfl) (by kernel_rfl) (by kernel_rfl) (by with_reducible repeat (first | exact PF_retK | refine PF_thenK ?_ | refine PF_blockK ?_)) ?_
  simp only [wk, wt, wl, ↓reduceIte, Nat.reduceEqDiff, Nat.reduceAdd, wz, dK_t, pt, q5, r5]
  refine (emit_ok (A.keeps K5) (B.keeps K5) (by omega) (by omega) To Tn (G.keeps K5) (Gt0.keeps K5)).use ?_
  rintro bv h6 ⟨R6, _, K56⟩
  have K6 := K5.trans K56
  have H6 := Ch.wf K6
  have Z1 := Keeps.var H5 K56 Y1
  have Z2 := Keeps.var H5 K56 Y2
  obtain ⟨_, _, _, _, _, q6⟩ := grid_load Z1
  obtain ⟨_, _, _, _, _, r6⟩ := grid_load Z2
  have LB := R6.len underlying30
  simp only [wk, wt, wl, ↓reduceIte, Nat.reduceEqDiff, Nat.reduceAdd, wz, dK_t, pt, q6, r6, LB]
  refine ⟨K56.reads H5, ?_⟩
  refine (most_ok (A.keeps K6) (B.keeps K6) To hq (by omega)).use ?_
  rintro _ h7 ⟨rfl, K67⟩
  have K7 := K6.trans K67
  simp only [wk, wt, wl, ↓reduceIte, Nat.reduceEqDiff, Nat.reduceAdd, wz, dK_t, pt, dm]
  refine (awake22_ok (G.keeps K7) (Gt0.keeps K7)).use ?_
  rintro _ h8 ⟨rfl, K78⟩
  simp only [wk, wt, wl, ↓reduceIte, Nat.reduceEqDiff, Nat.reduceAdd, wz, dK_t]
  exact ⟨K78.reads (Ch.wf K7), K7.trans K78⟩
end Go.Proofs.YthmpaddhmgnkbaaDoor.Am
end
