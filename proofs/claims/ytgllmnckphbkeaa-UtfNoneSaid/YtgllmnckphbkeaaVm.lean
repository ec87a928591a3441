/- The examples of the first chapter and its statements, told of abstract memory: each answers true. -/
import Derived.Test.YtgllmnckphbkeaaVl
set_option linter.unusedSimpArgs false
set_option linter.unusedVariables false
set_option maxHeartbeats 4000000
set_option maxRecDepth 20000
namespace Go.Proofs.Ytgllmnckphbkeaa.Am
open Go Go.RowKit Go.Proofs.Try
theorem rdNewI {h : Heap} (H : Wf h) {c : Nat} (xs : List Int) : RdI prog (h.new 21 (vI xs)) .i32 (.slice (some ⟨h.size, 0, none⟩) xs.length c) xs := Rd.new H asz21 (by simp [vI])
theorem decA : Dec [65, 195, 169, 255, 226, 130] [65, 233, 65533, 65533, 65533] := ⟨[65, 233, 65533], [226, 130], .step (n := 1) (by decide) (.step (n := 2) (by decide) (.step (n := 1) (by decide) (.done (by decide)))), rfl⟩
theorem nextA : nextT [226, 130] = .tuple #[.int .i32 0, .int .i64 0, .bool true] := by
  have : nextZ [226, 130] = none := by decide
  simp only [nextT, this]
theorem nextB : nextT [226, 65] = .tuple #[.int .i32 65533, .int .i64 1, .bool false] := by
  have : nextZ [226, 65] = some (65533, 1) := by decide
  simp only [nextT, this]; rfl
theorem encA : encL [8364] = [226, 130, 172] := by decide
theorem byteList {l : List Int} (h : ∀ x, x ∈ l → 0 ≤ x ∧ x ≤ 255) : ∀ x, x ∈ l → isB x := h
theorem isR_all {xs : List Int} (h : ∀ x, x ∈ xs → isR x) (j : Nat) : isR (xs.getD j 0) := by
  rw [List.getD_eq_getElem?_getD]
  cases e : xs[j]? with
  | none => simp [isR]
  | some x => exact h x (List.mem_of_getElem? e)
theorem awakeU_ok {h : Heap} : ACalls prog 13 #[] h (fun v h' => v = .bool true ∧ Keeps h h') := by
  refine acalls_of_W' func13 rfl (by kernel_rfl) (by kernel_rfl) (by simp [ntmps13]) ?_
  intro H
  simp only [wk, wt, wl, ↓reduceIte, Nat.reduceEqDiff, Nat.reduceAdd, Nat.zero_add, not_false_eq_true, not_true_eq_false]
  have K1 := Keeps.new H 5 (bI [65, 195, 169, 255, 226, 130])
  refine (decode_ok (rdNewB H [65, 195, 169, 255, 226, 130]) (by simp [isB]) (by simp)).use ?_
  rintro v2 h2 ⟨l, hd, O2, _, K2⟩
  obtain rfl := hd.det decA
  have K12 := K1.trans K2
  simp only [wk, wt, wl, ↓reduceIte, Nat.reduceEqDiff, Nat.reduceAdd, Nat.zero_add, not_false_eq_true, not_true_eq_false]
  have K3 := Keeps.new (Ch.wf K12) 5 (bI [226, 130])
  refine (next_ok (rdNewB (Ch.wf K12) [226, 130]) (by simp [isB]) (by simp)).use_pure ?_
  rw [nextA]
  have K13 := K12.trans K3
  simp only [wk, wt, wl, ↓reduceIte, Nat.reduceEqDiff, Nat.reduceAdd, Nat.zero_add, not_false_eq_true, not_true_eq_false]
  have K4 := Keeps.new (Ch.wf K13) 5 (bI [226, 65])
  refine (next_ok (rdNewB (Ch.wf K13) [226, 65]) (by simp [isB]) (by simp)).use_pure ?_
  rw [nextB]
  have K14 := K13.trans K4
  have R2 : RdI prog _ .i32 v2 [65, 233, 65533, 65533, 65533] := RdI.keeps O2.1 (K3.trans K4)
  have K5 := Keeps.new (Ch.wf K14) 21 (vI [65, 233, 65533, 65533, 65533])
  have X5 := rdNewI (c := 6) (Ch.wf K14) [65, 233, 65533, 65533, 65533]
  have K15 := K14.trans K5
  simp only [wk, wt, wl, ↓reduceIte, Nat.reduceEqDiff, Nat.reduceAdd, Nat.zero_add, not_false_eq_true, not_true_eq_false]
  refine (runes_ok (R2.keeps K5) X5 (by simp)).use_pure ?_
  have K6 := Keeps.new (Ch.wf K15) 21 (vI [8364])
  have X6 := rdNewI (c := 2) (Ch.wf K15) [8364]
  have K16 := K15.trans K6
  simp only [wk, wt, wl, ↓reduceIte, Nat.reduceEqDiff, Nat.reduceAdd, Nat.zero_add, not_false_eq_true, not_true_eq_false, decide_true]
  refine (encode_ok X6 (by simp) (isR_all (by simp [isR]))).use ?_
  rintro v7 h7 ⟨O7, K7, _⟩
  rw [encA] at O7
  have R7 : RdI prog h7 .u8 v7 [226, 130, 172] := O7.1
  simp only [wk, wt, wl, ↓reduceIte, Nat.reduceEqDiff, Nat.reduceAdd, Nat.zero_add, not_false_eq_true, not_true_eq_false, conv_str R7]
  have hs : decide ((strOfNums [226, 130, 172]).toList = (⟨#[226, 130, 172]⟩ : ByteArray).toList) = true := by kernel_rfl
  exact ⟨congrArg Value.bool hs, K16.trans K7⟩
theorem bool_eq {x y : Bool} : abin prog .eql 4 (.bool x) (.bool y) = some (.bool (x == y)) := by simp [abin, aeq, underlying4]
theorem bool_neq {x y : Bool} : abin prog .neq 4 (.bool x) (.bool y) = some (.bool (!(x == y))) := by simp [abin, aeq, underlying4]
theorem feedN_ok {bv : Value} {h : Heap} : ACalls prog 23 #[.pointer none, bv] h (fun v h' => v = .slice none 0 0 ∧ h' = h) := by
  refine acalls_of_W func23 rfl (by kernel_rfl) (by kernel_rfl) (by simp [ntmps23]) ?_
  simp only [wk, wt, wl, ↓reduceIte, Nat.reduceEqDiff, Nat.reduceAdd, Nat.zero_add, not_false_eq_true, not_true_eq_false, ptr_none (P := prog) underlying37]
theorem heldN_ok {h : Heap} : ACalls prog 24 #[.pointer none] h (fun v h' => v = .int .i64 0 ∧ h' = h) := by
  refine acalls_of_W func24 rfl (by kernel_rfl) (by kernel_rfl) (by simp [ntmps24]) ?_
  simp only [wk, wt, wl, ↓reduceIte, Nat.reduceEqDiff, Nat.reduceAdd, Nat.zero_add, not_false_eq_true, not_true_eq_false, ptr_none (P := prog) underlying37]
theorem flushN_ok {h : Heap} : ACalls prog 25 #[.pointer none] h (fun v h' => v = .slice none 0 0 ∧ h' = h) := by
  refine acalls_of_W func25 rfl (by kernel_rfl) (by kernel_rfl) (by simp [ntmps25]) ?_
  simp only [wk, wt, wl, ↓reduceIte, Nat.reduceEqDiff, Nat.reduceAdd, Nat.zero_add, not_false_eq_true, not_true_eq_false, ptr_none (P := prog) underlying37]
theorem utfNone_law {a : Value} {h : Heap} : ACalls prog 9 #[a] h (fun v h' => v = .bool true ∧ Keeps h h') := by
  refine acalls_of_W' func9 rfl (by kernel_rfl) (by kernel_rfl) (by simp [ntmps9]) ?_
  intro H
  have L0 : abuiltin prog .len #[24] #[.slice none 0 0] = some (.int .i64 0) := by simp [abuiltin, underlying24]
  simp only [wk, wt, wl, ↓reduceIte, Nat.reduceEqDiff, Nat.reduceAdd, Nat.zero_add, not_false_eq_true, not_true_eq_false]
  refine feedN_ok.use_pure ?_
  simp only [wk, wt, wl, ↓reduceIte, Nat.reduceEqDiff, Nat.reduceAdd, Nat.zero_add, not_false_eq_true, not_true_eq_false, L0, decide_true]
  refine heldN_ok.use_pure ?_
  simp only [wk, wt, wl, ↓reduceIte, Nat.reduceEqDiff, Nat.reduceAdd, Nat.zero_add, not_false_eq_true, not_true_eq_false, decide_true]
  refine flushN_ok.use_pure ?_
  simp only [wk, wt, wl, ↓reduceIte, Nat.reduceEqDiff, Nat.reduceAdd, Nat.zero_add, not_false_eq_true, not_true_eq_false, L0, decide_true]
  refine awakeU_ok.use ?_
  rintro _ h2 ⟨rfl, K⟩
  simp only [wk, wt, wl, ↓reduceIte, Nat.reduceEqDiff, Nat.reduceAdd, Nat.zero_add, not_false_eq_true, not_true_eq_false]
  exact K
theorem utfNexts_law {a : Value} {b : List Int} {h : Heap} (ha : RdI prog h .u8 a b) (hb : ∀ x, x ∈ b → isB x) (hl : b.length ≤ 9223372036854775807) : ACalls prog 5 #[a] h (fun v h' => v = .bool true ∧ Keeps h h') := by
  refine acalls_of_W' func5 rfl (by kernel_rfl) (by kernel_rfl) (by simp [ntmps5]) ?_
  intro H
  simp only [wk, wt, wl, ↓reduceIte, Nat.reduceEqDiff, Nat.reduceAdd, Nat.zero_add, not_false_eq_true, not_true_eq_false]
  refine (next_ok ha hb (by omega)).use_pure ?_
  have ht : ∃ r n m, nextT b = .tuple #[.int .i32 r, .int .i64 n, .bool m] := by
    unfold nextT
    split
    · exact ⟨_, _, _, rfl⟩
    · exact ⟨_, _, _, rfl⟩
  obtain ⟨r, n, m, ht⟩ := ht
  rw [ht]
  simp only [wk, wt, wl, ↓reduceIte, Nat.reduceEqDiff, Nat.reduceAdd, Nat.zero_add, not_false_eq_true, not_true_eq_false]
  refine (refNext_ok ha hb (by omega)).use ?_
  rintro _ h2 ⟨rfl, K2⟩
  rw [ht]
  simp only [wk, wt, wl, ↓reduceIte, Nat.reduceEqDiff, Nat.reduceAdd, Nat.zero_add, not_false_eq_true, not_true_eq_false, decide_true, bool_eq, beq_self_eq_true]
  refine awakeU_ok.use ?_
  rintro _ h3 ⟨rfl, K3⟩
  simp only [wk, wt, wl, ↓reduceIte, Nat.reduceEqDiff, Nat.reduceAdd, Nat.zero_add, not_false_eq_true, not_true_eq_false]
  exact K2.trans K3
theorem utfDecodes_law {a : Value} {b : List Int} {h : Heap} (ha : RdI prog h .u8 a b) (hb : ∀ x, x ∈ b → isB x) (hl : b.length ≤ 800000000) : ACalls prog 3 #[a] h (fun v h' => v = .bool true ∧ Keeps h h') := by
  refine acalls_of_W' func3 rfl (by kernel_rfl) (by kernel_rfl) (by simp [ntmps3]) ?_
  intro H
  simp only [wk, wt, wl, ↓reduceIte, Nat.reduceEqDiff, Nat.reduceAdd, Nat.zero_add, not_false_eq_true, not_true_eq_false, build0 (P := prog) (t := 22) underlying22 asz5]
  have N1 := Keeps.new H 5 []
  have O1 : Own prog h.size (h.new 5 []) 1 (.slice (some ⟨h.size, 0, none⟩) 0 1) 0 [] := Own.new H (Nat.le_refl _) asz5 rfl
  obtain ⟨v2, h2, e2, O2, R2, C2, _⟩ := O1.appendRd (P := prog) (Ch.wf N1) (Ch.le N1) underlying22 underlying22 rfl elem5 fits5 (by decide) (ha.keeps N1) (by omega)
  rw [e2]; clear e2
  have K2 := N1.step C2 fun b hb => hb.2
  have hv2 : RdI prog h2 .u8 v2 b := by
    have := O2.1
    simpa [RdI] using this
  simp only [wk, wt, wl, ↓reduceIte, Nat.reduceEqDiff, Nat.reduceAdd, Nat.zero_add, not_false_eq_true, not_true_eq_false]
  refine (decode_ok hv2 hb (by omega)).use ?_
  rintro v3 h3 ⟨l, hd, O3, _, K3⟩
  have K13 := K2.trans K3
  have hll := hd.len
  simp only [wk, wt, wl, ↓reduceIte, Nat.reduceEqDiff, Nat.reduceAdd, Nat.zero_add, not_false_eq_true, not_true_eq_false]
  refine (refDecode_ok (ha.keeps K13) hb (by omega)).use ?_
  rintro v4 h4 ⟨l', hr, R4, _, K4⟩
  obtain rfl := hd.rdec.det hr
  have R3 : RdI prog h4 .i32 v3 l := RdI.keeps O3.1 K4
  have K14 := K13.trans K4
  simp only [wk, wt, wl, ↓reduceIte, Nat.reduceEqDiff, Nat.reduceAdd, Nat.zero_add, not_false_eq_true, not_true_eq_false]
  refine (runes_ok R3 R4 (by omega)).use_pure ?_
  simp only [wk, wt, wl, ↓reduceIte, Nat.reduceEqDiff, Nat.reduceAdd, Nat.zero_add, not_false_eq_true, not_true_eq_false, decide_true, conv_str (hv2.keeps (K3.trans K4)), conv_str (ha.keeps K14)]
  refine awakeU_ok.use ?_
  rintro _ h5 ⟨rfl, K5⟩
  simp only [wk, wt, wl, ↓reduceIte, Nat.reduceEqDiff, Nat.reduceAdd, Nat.zero_add, not_false_eq_true, not_true_eq_false]
  exact K14.trans K5
theorem utfBack_law {a : Value} {l : List Int} {h : Heap} (ha : RdI prog h .i32 a l) (hr : ∀ j, isR (l.getD j 0)) (hl : l.length ≤ 100000000) : ACalls prog 6 #[a] h (fun v h' => v = .bool true ∧ Keeps h h') := by
  refine acalls_of_W' func6 rfl (by kernel_rfl) (by kernel_rfl) (by simp [ntmps6]) ?_
  intro H
  simp only [wk, wt, wl, ↓reduceIte, Nat.reduceEqDiff, Nat.reduceAdd, Nat.zero_add, not_false_eq_true, not_true_eq_false]
  refine (encode_ok ha hl hr).use ?_
  rintro v2 h2 ⟨O2, K2, _⟩
  have el := encL_len l
  simp only [wk, wt, wl, ↓reduceIte, Nat.reduceEqDiff, Nat.reduceAdd, Nat.zero_add, not_false_eq_true, not_true_eq_false]
  refine (decode_ok O2.1 encL_isB (by omega)).use ?_
  rintro v3 h3 ⟨l', hd, O3, _, K3⟩
  obtain rfl := hd.det (Dec.encAll l)
  have K := K2.trans K3
  have R3 : RdI prog h3 .i32 v3 (l.map fixR) := O3.1
  have ml : (l.map fixR).length = l.length := by simp
  have d1 : decide (¬ (((l.map fixR).length : Nat) : Int) = l.length) = false := decide_eq_false (by rw [ml]; simp)
  simp only [wk, wt, wl, ↓reduceIte, Nat.reduceEqDiff, Nat.reduceAdd, Nat.zero_add, not_false_eq_true, not_true_eq_false, RdI.len R3 underlying24, RdI.len (ha.keeps K) underlying24, d1]
  refine W_loop (fun tm h' => h' = h3 ∧ tm 0 = a ∧ tm 3 = v3 ∧ ∃ i : Nat, tm 4 = .int .i64 i ∧ i ≤ l.length) (fun tm _ => (l.length - intOf (tm 4)).toNat) ⟨rfl, (by first | rfl | (simp only [wk, wt, wl, ↓reduceIte, Nat.reduceEqDiff, Nat.reduceAdd, Nat.zero_add, not_false_eq_true, not_true_eq_false]; done) | (simp only [wk, wt, wl, ↓reduceIte, Nat.reduceEqDiff, Nat.reduceAdd, Nat.zero_add, not_false_eq_true, not_true_eq_false]; rfl)), (by first | rfl | (simp only [wk, wt, wl, ↓reduceIte, Nat.reduceEqDiff, Nat.reduceAdd, Nat.zero_add, not_false_eq_true, not_true_eq_false]; done) | (simp only [wk, wt, wl, ↓reduceIte, Nat.reduceEqDiff, Nat.reduceAdd, Nat.zero_add, not_false_eq_true, not_true_eq_false]; rfl)), 0, (by first | rfl | (simp only [wk, wt, wl, ↓reduceIte, Nat.reduceEqDiff, Nat.reduceAdd, Nat.zero_add, not_false_eq_true, not_true_eq_false]; done) | (simp only [wk, wt, wl, ↓reduceIte, Nat.reduceEqDiff, Nat.reduceAdd, Nat.zero_add, not_false_eq_true, not_true_eq_false]; rfl)), by omega⟩ ?_
  rintro tm h' ⟨rfl, t0, t3, i, t4, hi⟩
  simp only [wk, wt, wl, ↓reduceIte, Nat.reduceEqDiff, Nat.reduceAdd, Nat.zero_add, not_false_eq_true, not_true_eq_false, t0, t3, t4, RdI.len (ha.keeps K) underlying24]
  refine condK_dec (fun hd => ?_) (fun hd => ?_)
  · have hi1 : i < l.length := by omega
    have L1 := RdI.at (ha.keeps K) (t := 21) underlying21 rfl hi1
    have L2 := RdI.at R3 (t := 21) underlying21 rfl (i := i) (by omega)
    have e2 : (l.map fixR).getD i 0 = fixR (l.getD i 0) := by
      rw [List.getD_eq_getElem?_getD, List.getD_eq_getElem?_getD, List.getElem?_map, List.getElem?_eq_getElem hi1]; rfl
    rw [e2] at L2
    have hx := hr i
    generalize l.getD i 0 = x at L1 L2 hx
    have fx : ∀ {y : Int}, fixR x = y → decide (¬ fixR x = y) = false := fun e => decide_eq_false (by simp [e])
    by_cases hv : validB x = true
    · have ef : fixR x = x := by simp [fixR, hv]
      rw [ef] at L2
      have hv' := hv
      simp only [validB, decide_eq_true_eq] at hv
      have d2 : decide (x < 0) = false := decide_eq_false (by omega)
      have d3 : decide (1114111 < x) = false := decide_eq_false (by omega)
      have d6 : decide (¬ x = x) = false := decide_eq_false (by simp)
      by_cases h5 : 55296 ≤ x
      · have d4 : decide (55296 ≤ x) = true := decide_eq_true h5
        have d5 : decide (x ≤ 57343) = false := decide_eq_false (by omega)
        simp (disch := omega) only [wk, wt, wl, ↓reduceIte, Nat.reduceEqDiff, Nat.reduceAdd, Nat.zero_add, not_false_eq_true, not_true_eq_false, t0, t3, t4, RdI.index (ha.keeps K) underlying24 asz21 (q := .i64) (i := (i : Int)), RdI.index R3 underlying24 asz21 (q := .i64) (i := (i : Int)), Int.toNat_natCast, L1, L2, d2, d3, d4, d5, d6, IntWalk.i64_in, intOf_int]
        exact ⟨⟨i + 1, by simp, by omega⟩, by omega⟩
      · have d4 : decide (55296 ≤ x) = false := decide_eq_false h5
        simp (disch := omega) only [wk, wt, wl, ↓reduceIte, Nat.reduceEqDiff, Nat.reduceAdd, Nat.zero_add, not_false_eq_true, not_true_eq_false, t0, t3, t4, RdI.index (ha.keeps K) underlying24 asz21 (q := .i64) (i := (i : Int)), RdI.index R3 underlying24 asz21 (q := .i64) (i := (i : Int)), Int.toNat_natCast, L1, L2, d2, d3, d4, d6, IntWalk.i64_in, intOf_int]
        exact ⟨⟨i + 1, by simp, by omega⟩, by omega⟩
    · have ef : fixR x = 65533 := by simp [fixR, hv]
      rw [ef] at L2
      simp only [validB, decide_eq_true_eq] at hv
      have d6 : decide (¬ (65533 : Int) = 65533) = false := by decide
      rcases (show x < 0 ∨ 1114111 < x ∨ (55296 ≤ x ∧ x ≤ 57343) by omega) with hc | hc | hc
      · have d2 : decide (x < 0) = true := decide_eq_true hc
        simp (disch := omega) only [wk, wt, wl, ↓reduceIte, Nat.reduceEqDiff, Nat.reduceAdd, Nat.zero_add, not_false_eq_true, not_true_eq_false, t0, t3, t4, RdI.index (ha.keeps K) underlying24 asz21 (q := .i64) (i := (i : Int)), RdI.index R3 underlying24 asz21 (q := .i64) (i := (i : Int)), Int.toNat_natCast, L1, L2, d2, d6, IntWalk.i64_in, intOf_int]
        exact ⟨⟨i + 1, by simp, by omega⟩, by omega⟩
      · have d2 : decide (x < 0) = false := decide_eq_false (by omega)
        have d3 : decide (1114111 < x) = true := decide_eq_true hc
        simp (disch := omega) only [wk, wt, wl, ↓reduceIte, Nat.reduceEqDiff, Nat.reduceAdd, Nat.zero_add, not_false_eq_true, not_true_eq_false, t0, t3, t4, RdI.index (ha.keeps K) underlying24 asz21 (q := .i64) (i := (i : Int)), RdI.index R3 underlying24 asz21 (q := .i64) (i := (i : Int)), Int.toNat_natCast, L1, L2, d2, d3, d6, IntWalk.i64_in, intOf_int]
        exact ⟨⟨i + 1, by simp, by omega⟩, by omega⟩
      · have d2 : decide (x < 0) = false := decide_eq_false (by omega)
        have d3 : decide (1114111 < x) = false := decide_eq_false (by omega)
        have d4 : decide (55296 ≤ x) = true := decide_eq_true hc.1
        have d5 : decide (x ≤ 57343) = true := decide_eq_true hc.2
        simp (disch := omega) only [wk, wt, wl, ↓reduceIte, Nat.reduceEqDiff, Nat.reduceAdd, Nat.zero_add, not_false_eq_true, not_true_eq_false, t0, t3, t4, RdI.index (ha.keeps K) underlying24 asz21 (q := .i64) (i := (i : Int)), RdI.index R3 underlying24 asz21 (q := .i64) (i := (i : Int)), Int.toNat_natCast, L1, L2, d2, d3, d4, d5, d6, IntWalk.i64_in, intOf_int]
        exact ⟨⟨i + 1, by simp, by omega⟩, by omega⟩
  · simp only [wk, wt, wl, ↓reduceIte, Nat.reduceEqDiff, Nat.reduceAdd, Nat.zero_add, not_false_eq_true, not_true_eq_false, t0, t3]
    refine awakeU_ok.use ?_
    rintro _ h5 ⟨rfl, K5⟩
    simp only [wk, wt, wl, ↓reduceIte, Nat.reduceEqDiff, Nat.reduceAdd, Nat.zero_add, not_false_eq_true, not_true_eq_false]
    exact K.trans K5
end Go.Proofs.Ytgllmnckphbkeaa.Am
