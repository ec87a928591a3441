/- More statements of the first chapter, told of abstract memory: UtfJoins, UtfEncodes and UtfFeeds answer true. -/
import Derived.Test.YtgllmnckphbkeaaVm
set_option linter.unusedSimpArgs false
set_option linter.unusedVariables false
set_option maxHeartbeats 4000000
set_option maxRecDepth 20000
namespace Go.Proofs.Ytgllmnckphbkeaa.Am
open Go Go.RowKit Go.Proofs.Try
theorem Rd.toI {h : Heap} {v : Value} {n : Nat} {k : IntKind} {cs : List Value} {xs : List Int} (R : Rd prog h 1 v n cs) (hn : n = xs.length) (hc : cs = xs.map (Value.int k)) : RdI prog h k v xs := by
  subst hn; subst hc; exact R
theorem utfJoins_law {a bv : Value} {l b : List Int} {h : Heap} (ha : RdI prog h .i32 a l) (hbv : RdI prog h .u8 bv b) (hr : ∀ j, isR (l.getD j 0)) (hb : ∀ x, x ∈ b → isB x) (hl : l.length ≤ 100000000) (hbl : b.length ≤ 100000000) :
    ACalls prog 7 #[a, bv] h (fun v h' => v = .bool true ∧ Keeps h h') := by
  refine acalls_of_W' func7 rfl (by kernel_rfl) (by kernel_rfl) (by simp [ntmps7]) ?_
  intro H
  simp only [wk, wt, wl, ↓reduceIte, Nat.reduceEqDiff, Nat.reduceAdd, Nat.zero_add, not_false_eq_true, not_true_eq_false]
  refine (encode_ok ha hl hr).use ?_
  rintro v2 h2 ⟨O2, K2, _⟩
  have el := encL_len l
  have R2 : RdI prog h2 .u8 v2 (encL l) := O2.1
  simp only [wk, wt, wl, ↓reduceIte, Nat.reduceEqDiff, Nat.reduceAdd, Nat.zero_add, not_false_eq_true, not_true_eq_false, build0 (P := prog) (t := 22) underlying22 asz5]
  have N1 := Keeps.new (Ch.wf K2) 5 []
  have O1 : Own prog h2.size (h2.new 5 []) 1 (.slice (some ⟨h2.size, 0, none⟩) 0 1) 0 [] := Own.new (Ch.wf K2) (Nat.le_refl _) asz5 rfl
  obtain ⟨v3, h3, e3, O3, _, C3, _⟩ := O1.appendRd (P := prog) (Ch.wf N1) (Ch.le N1) underlying22 underlying22 rfl elem5 fits5 (by decide) (R2.keeps N1) (by omega)
  rw [e3]; clear e3
  have N3 := N1.step C3 fun b hb => hb.2
  simp only [wk, wt, wl, ↓reduceIte, Nat.reduceEqDiff, Nat.reduceAdd, Nat.zero_add, not_false_eq_true, not_true_eq_false]
  obtain ⟨v4, h4, e4, O4, _, C4, _⟩ := O3.appendRd (P := prog) (Ch.wf N3) (Ch.le N3) underlying22 underlying22 rfl elem5 fits5 (by decide) (hbv.keeps (K2.trans N3)) (by omega)
  rw [e4]; clear e4
  have N4 := N3.step C4 fun b hb => hb.2
  have K4 := K2.trans N4
  have R4 : RdI prog h4 .u8 v4 (encL l ++ b) := Rd.toI O4.1 (by simp) (by simp [bI])
  have hB4 : ∀ x, x ∈ encL l ++ b → isB x := fun x hx => (List.mem_append.1 hx).elim (encL_isB x) (hb x)
  simp only [wk, wt, wl, ↓reduceIte, Nat.reduceEqDiff, Nat.reduceAdd, Nat.zero_add, not_false_eq_true, not_true_eq_false]
  refine (decode_ok R4 hB4 (by rw [List.length_append]; omega)).use ?_
  rintro v5 h5 ⟨l5, d5, O5, _, K5⟩
  simp only [wk, wt, wl, ↓reduceIte, Nat.reduceEqDiff, Nat.reduceAdd, Nat.zero_add, not_false_eq_true, not_true_eq_false]
  have K05 := K4.trans K5
  refine (decode_ok (R2.keeps (N4.trans K5)) encL_isB (by omega)).use ?_
  rintro v6 h6 ⟨l6, d6, O6, _, K6⟩
  simp only [wk, wt, wl, ↓reduceIte, Nat.reduceEqDiff, Nat.reduceAdd, Nat.zero_add, not_false_eq_true, not_true_eq_false]
  have K06 := K05.trans K6
  refine (decode_ok (hbv.keeps K06) hb (by omega)).use ?_
  rintro v7 h7 ⟨l7, d7, O7, _, K7⟩
  have K07 := K06.trans K7
  obtain rfl := d6.det (Dec.encAll l)
  obtain rfl := d5.det (d7.enc l)
  have hl7 := d7.len
  simp only [wk, wt, wl, ↓reduceIte, Nat.reduceEqDiff, Nat.reduceAdd, Nat.zero_add, not_false_eq_true, not_true_eq_false]
  obtain ⟨v8, h8, e8, O8, R8, C8, _⟩ := (O6.keeps K7).appendRd (P := prog) (Ch.wf K07) (by have := Ch.le K6; have := Ch.le K7; omega) underlying24 underlying24 rfl elem21 fits21 (by decide) O7.1 (by simp only [List.length_map]; omega)
  rw [e8]; clear e8
  have K08 := K07.step C8 fun b hb => by have := hb.2; have := Ch.le K05; omega
  have X5 : RdI prog h8 .i32 v5 (l.map fixR ++ l7) := RdI.keeps O5.1 ((K6.trans K7).step C8 fun b hb => hb.2)
  have X8 : RdI prog h8 .i32 v8 (l.map fixR ++ l7) := Rd.toI O8.1 (by simp) (by simp [vI])
  simp only [wk, wt, wl, ↓reduceIte, Nat.reduceEqDiff, Nat.reduceAdd, Nat.zero_add, not_false_eq_true, not_true_eq_false]
  refine (runes_ok X5 X8 (by rw [List.length_append, List.length_map]; omega)).use_pure ?_
  simp only [wk, wt, wl, ↓reduceIte, Nat.reduceEqDiff, Nat.reduceAdd, Nat.zero_add, not_false_eq_true, not_true_eq_false, decide_true]
  refine awakeU_ok.use ?_
  rintro _ h9 ⟨rfl, K9⟩
  simp only [wk, wt, wl, ↓reduceIte, Nat.reduceEqDiff, Nat.reduceAdd, Nat.zero_add, not_false_eq_true, not_true_eq_false]
  exact K08.trans K9
theorem utfEncodes_law {a : Value} {l : List Int} {h : Heap} (ha : RdI prog h .i32 a l) (hr : ∀ j, isR (l.getD j 0)) (hl : l.length ≤ 100000000) :
    ACalls prog 4 #[a] h (fun v h' => v = .bool true ∧ Keeps h h') := by
  refine acalls_of_W' func4 rfl (by kernel_rfl) (by kernel_rfl) (by simp [ntmps4]) ?_
  intro H
  simp only [wk, wt, wl, ↓reduceIte, Nat.reduceEqDiff, Nat.reduceAdd, Nat.zero_add, not_false_eq_true, not_true_eq_false]
  refine W_loop (fun tm h' => Keeps h h' ∧ tm 0 = a ∧ ∃ i : Nat, tm 4 = .int .i64 i ∧ tm 3 = .int .i64 (encL (l.take i)).length ∧ i ≤ l.length) (fun tm _ => (l.length - intOf (tm 4)).toNat) ⟨Keeps.refl H, (by first | rfl | (simp only [wk, wt, wl, ↓reduceIte, Nat.reduceEqDiff, Nat.reduceAdd, Nat.zero_add, not_false_eq_true, not_true_eq_false]; done) | (simp only [wk, wt, wl, ↓reduceIte, Nat.reduceEqDiff, Nat.reduceAdd, Nat.zero_add, not_false_eq_true, not_true_eq_false]; rfl)), 0, (by first | rfl | (simp only [wk, wt, wl, ↓reduceIte, Nat.reduceEqDiff, Nat.reduceAdd, Nat.zero_add, not_false_eq_true, not_true_eq_false]; done) | (simp only [wk, wt, wl, ↓reduceIte, Nat.reduceEqDiff, Nat.reduceAdd, Nat.zero_add, not_false_eq_true, not_true_eq_false]; rfl)), (by first | rfl | (simp only [wk, wt, wl, ↓reduceIte, Nat.reduceEqDiff, Nat.reduceAdd, Nat.zero_add, not_false_eq_true, not_true_eq_false]; done) | (simp only [wk, wt, wl, ↓reduceIte, Nat.reduceEqDiff, Nat.reduceAdd, Nat.zero_add, not_false_eq_true, not_true_eq_false]; rfl)), by omega⟩ ?_
  rintro tm h' ⟨K, t0, i, t4, t3, hi⟩
  have ha' := ha.keeps K
  simp only [wk, wt, wl, ↓reduceIte, Nat.reduceEqDiff, Nat.reduceAdd, Nat.zero_add, not_false_eq_true, not_true_eq_false, t0, t3, t4, RdI.len ha' underlying24]
  refine condK_dec (fun hd => ?_) (fun hd => ?_)
  · have hi1 : i < l.length := by omega
    have hx := hr i
    have el := encL_len (l.take i)
    simp only [List.length_take] at el
    have en := congrArg List.length (encL_next hi1)
    rw [List.length_append] at en
    have lz := lenZ_range (r := l.getD i 0)
    have L1 := RdI.at ha' (t := 21) underlying21 rfl hi1
    have L2 := fun {h2 : Heap} (K2 : Keeps h' h2) => RdI.at (ha'.keeps K2) (t := 21) underlying21 rfl hi1
    generalize l.getD i 0 = x at L1 L2 hx en lz
    have K2 := Keeps.new (Ch.wf K) 5 (bI (encR x))
    have L2 := L2 K2
    have L3 : abuiltin prog .len #[22] #[.slice (some ⟨h'.size, 0, none⟩) (encR x).length ((encR x).length + 1)] = some (.int .i64 (lenZ x)) := RdI.len (rdNewB (Ch.wf K) (encR x)) underlying22
    have d1 : decide (¬ ((lenZ x : Nat) : Int) = lenZ x) = false := decide_eq_false (by simp)
    simp only [wk, wt, wl, ↓reduceIte, Nat.reduceEqDiff, Nat.reduceAdd, Nat.zero_add, not_false_eq_true, not_true_eq_false]
    refine adraw_order [(0, false), (1, false), (2, false), (3, false), (5, false), (6, false), (7, false), (8, false), (4, true), (9, true), (10, false), (11, false), (12, false), (13, false), (14, false), (15, false), (17, false), (18, false), (19, false), (20, false), (16, true), (21, true), (22, false), (23, false), (24, false)] mixed (by kernel_rfl) (by kernel_rfl) (by kernel_rfl) (by repeat (first | exact PF_retK | refine PF_thenK ?_ | refine PF_blockK ?_)) ?_
    simp (disch := omega) only [wk, wt, wl, ↓reduceIte, Nat.reduceEqDiff, Nat.reduceAdd, Nat.zero_add, not_false_eq_true, not_true_eq_false, dK_t, t0, t3, t4, RdI.index ha' underlying24 asz21 (q := .i64) (i := (i : Int)), Int.toNat_natCast, L1]
    refine (valid_ok hx).use_pure ?_
    simp (disch := omega) only [wk, wt, wl, ↓reduceIte, Nat.reduceEqDiff, Nat.reduceAdd, Nat.zero_add, not_false_eq_true, not_true_eq_false, dK_t, t0, t3, t4, RdI.index ha' underlying24 asz21 (q := .i64) (i := (i : Int)), Int.toNat_natCast, L1]
    refine ⟨Reads.refl _, ?_⟩
    refine (refValid_ok hx).use_pure ?_
    simp (disch := omega) only [wk, wt, wl, ↓reduceIte, Nat.reduceEqDiff, Nat.reduceAdd, Nat.zero_add, not_false_eq_true, not_true_eq_false, dK_t, t0, t3, t4, bool_neq, beq_self_eq_true, Bool.not_true, RdI.index ha' underlying24 asz21 (q := .i64) (i := (i : Int)), Int.toNat_natCast, L1]
    refine ⟨Reads.refl _, ?_⟩
    refine (len_ok hx).use_pure ?_
    simp (disch := omega) only [wk, wt, wl, ↓reduceIte, Nat.reduceEqDiff, Nat.reduceAdd, Nat.zero_add, not_false_eq_true, not_true_eq_false, dK_t, t0, t3, t4, RdI.index ha' underlying24 asz21 (q := .i64) (i := (i : Int)), Int.toNat_natCast, L1]
    refine ⟨Reads.refl _, ?_⟩
    refine (one_ok hx).use_pure ?_
    simp (disch := omega) only [wk, wt, wl, ↓reduceIte, Nat.reduceEqDiff, Nat.reduceAdd, Nat.zero_add, not_false_eq_true, not_true_eq_false, dK_t, t0, t3, t4, L3, d1]
    refine ⟨K2.reads (Ch.wf K), ?_⟩
    repeat (refine ⟨Reads.refl _, ?_⟩)
    simp (disch := omega) only [wk, wt, wl, ↓reduceIte, Nat.reduceEqDiff, Nat.reduceAdd, Nat.zero_add, not_false_eq_true, not_true_eq_false, t0, t3, t4, RdI.index (ha'.keeps K2) underlying24 asz21 (q := .i64) (i := (i : Int)), Int.toNat_natCast, L2]
    refine (len_ok hx).use_pure ?_
    simp (disch := omega) only [wk, wt, wl, ↓reduceIte, Nat.reduceEqDiff, Nat.reduceAdd, Nat.zero_add, not_false_eq_true, not_true_eq_false, t0, t3, t4, IntWalk.i64_in, intOf_int]
    refine ⟨⟨K.trans K2, i + 1, by simp, ?_, by omega⟩, by omega⟩
    rw [en]; simp [lenZ]
  · rw [List.take_of_length_le (by omega)] at t3
    simp only [wk, wt, wl, ↓reduceIte, Nat.reduceEqDiff, Nat.reduceAdd, Nat.zero_add, not_false_eq_true, not_true_eq_false, t0, t3]
    refine (encode_ok ha' hl hr).use ?_
    rintro v5 h5 ⟨O5, K5, _⟩
    have R5 : RdI prog h5 .u8 v5 (encL l) := O5.1
    have K05 := K.trans K5
    simp only [wk, wt, wl, ↓reduceIte, Nat.reduceEqDiff, Nat.reduceAdd, Nat.zero_add, not_false_eq_true, not_true_eq_false]
    refine adraw_order [(0, false), (1, false), (2, false), (3, true), (4, false), (5, false), (6, false), (7, false), (8, false), (9, false), (10, false), (11, false), (12, false), (13, true), (14, false), (15, false)] mixed (by kernel_rfl) (by kernel_rfl) (by kernel_rfl) (by repeat (first | exact PF_retK | refine PF_thenK ?_ | refine PF_blockK ?_)) ?_
    simp (disch := omega) only [wk, wt, wl, ↓reduceIte, Nat.reduceEqDiff, Nat.reduceAdd, Nat.zero_add, not_false_eq_true, not_true_eq_false, dK_t, t0, t3, conv_str R5]
    refine (refEncode_ok (ha.keeps K05) hl hr).use ?_
    rintro v6 h6 ⟨R6, K6⟩
    have K06 := K05.trans K6
    have L5 := RdI.len (R5.keeps K6) underlying22
    simp (disch := omega) only [wk, wt, wl, ↓reduceIte, Nat.reduceEqDiff, Nat.reduceAdd, Nat.zero_add, not_false_eq_true, not_true_eq_false, dK_t, t0, t3, conv_str R6, decide_true, L5]
    refine ⟨K6.reads (Ch.wf K05), ?_⟩
    repeat (refine ⟨Reads.refl _, ?_⟩)
    refine awakeU_ok.use ?_
    rintro _ h9 ⟨rfl, K9⟩
    simp (disch := omega) only [wk, wt, wl, ↓reduceIte, Nat.reduceEqDiff, Nat.reduceAdd, Nat.zero_add, not_false_eq_true, not_true_eq_false, dK_t]
    first
      | exact ⟨K9.reads (Ch.wf K06), K06.trans K9⟩
      | exact K06.trans K9
end Go.Proofs.Ytgllmnckphbkeaa.Am
