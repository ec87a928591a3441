/- Folds behind a change: the contract of the document's Adjust, by a walk; FoldAdjusts answers true. -/
import Derived.Test.YtgfccaaalkkdlaaOj
set_option linter.unusedSimpArgs false
set_option linter.unusedVariables false
set_option maxHeartbeats 4000000
set_option maxRecDepth 20000
namespace Go.Proofs.Ytgfccaaalkkdlaa.Am
open Go Go.RowKit Go.Proofs.Try
theorem refAdjust_ok {v ov nv : Value} {l : List F} {c : Int} {o n : Nat} {h : Heap} (R : FR h v l) (hr : rightB l = true) (hn : nearF l = true) (hc : 0 ≤ c ∧ c ≤ 1099511627776) (ho : o ≤ 1000000000) (hnn : n ≤ 1000000000)
    (LO : abuiltin prog .len #[29] #[ov] = some (.int .i64 o)) (LN : abuiltin prog .len #[29] #[nv] = some (.int .i64 n)) (oo : one ov = true) (on : one nv = true) :
    ACalls prog 20 #[v, chV c ov nv] h (fun y h' => FR h' y (l.filterMap (adjF c o n)) ∧ Keeps h h') := by
  obtain ⟨r1, r2, r3⟩ := rightB_at hr
  refine acalls_of_W' func20 rfl (by kernel_rfl) (by kernel_rfl) (by simp [ntmps20]) ?_
  intro H
  have K0 := Keeps.new H 31 [.int .i64 c, ov, nv]
  have V0 := Var.new (e := 31) H (cs := [.int .i64 c, ov, nv])
  have hb : ∀ tm : Tm, tm 1 = chV c ov nv → aeff prog tm h (.box 31 (.tmp 1)) = some (.pointer (some ⟨h.size, 0, none⟩), h.new 31 [.int .i64 c, ov, nv]) := fun tm ht => box_new (by simp [ev, ht, chV, Value.cells]) ⟨_, asz31⟩ (by show (Value.cells (tm 1)).all one = true; rw [ht]; simp [chV, Value.cells, one_int, oo, on])
  simp only [wk, wt, wl, ↓reduceIte, Nat.reduceEqDiff, Nat.reduceAdd, Nat.zero_add, not_false_eq_true, not_true_eq_false, hb (atm #[v, chV c ov nv]) rfl]
  refine (refRight_ok (RS.keeps R K0) (by omega)).use_pure ?_
  have WC := fun {hh : Heap} (V : Var hh h.size [.int .i64 c, ov, nv]) => V.load1 (P := prog) (t := 3) underlying3 rfl (i := 0)
  have WO := fun {hh : Heap} (V : Var hh h.size [.int .i64 c, ov, nv]) => V.load1 (P := prog) (t := 29) underlying29 rfl (i := 1)
  have WN := fun {hh : Heap} (V : Var hh h.size [.int .i64 c, ov, nv]) => V.load1 (P := prog) (t := 29) underlying29 rfl (i := 2)
  simp only [List.getElem?_cons_succ, List.getElem?_cons_zero] at WC WO WN
  simp (disch := omega) only [wk, wt, wl, ↓reduceIte, Nat.reduceEqDiff, Nat.reduceAdd, Nat.zero_add, not_false_eq_true, not_true_eq_false, hr, Bool.not_true]
  refine adraw_order [(0, false), (1, false), (2, false), (3, false), (4, false), (5, false), (6, false), (7, false)] mixed (by kernel_rfl) (by kernel_rfl) (by kernel_rfl) (by repeat (first | exact PF_retK | refine PF_thenK ?_ | refine PF_blockK ?_)) ?_
  simp (disch := omega) only [wk, wt, wl, ↓reduceIte, Nat.reduceEqDiff, Nat.reduceAdd, Nat.zero_add, not_false_eq_true, not_true_eq_false, dK_t, WC V0, WO V0, WN V0, LO, LN, IntWalk.i64_in]
  repeat (refine ⟨Reads.refl _, ?_⟩)
  refine W_loop (fun tm h' => Keeps h h' ∧ tm 0 = v ∧ tm 3 = .pointer (some ⟨h.size, 0, none⟩) ∧ tm 5 = .int .i64 o ∧ tm 6 = .int .i64 n ∧ Var h' h.size [.int .i64 c, ov, nv] ∧ ∃ (i : Nat) (ov' : Value) (out : List F), tm 8 = .int .i64 i ∧ tm 7 = ov' ∧ i ≤ l.length ∧
      OS prog h.size h' 3 cF ov' out ∧ (∀ y, blkOf ov' = some y → y ≠ h.size) ∧ out.length ≤ i ∧ out ++ (l.drop i).filterMap (adjF c o n) = l.filterMap (adjF c o n)) (fun tm _ => (l.length - intOf (tm 8)).toNat)
    ⟨K0, (by first | rfl | (simp only [wk, wt, wl, ↓reduceIte, Nat.reduceEqDiff, Nat.reduceAdd, Nat.zero_add, not_false_eq_true, not_true_eq_false]; done) | (simp only [wk, wt, wl, ↓reduceIte, Nat.reduceEqDiff, Nat.reduceAdd, Nat.zero_add, not_false_eq_true, not_true_eq_false]; rfl)), (by first | rfl | (simp only [wk, wt, wl, ↓reduceIte, Nat.reduceEqDiff, Nat.reduceAdd, Nat.zero_add, not_false_eq_true, not_true_eq_false]; done) | (simp only [wk, wt, wl, ↓reduceIte, Nat.reduceEqDiff, Nat.reduceAdd, Nat.zero_add, not_false_eq_true, not_true_eq_false]; rfl)), (by first | rfl | (simp only [wk, wt, wl, ↓reduceIte, Nat.reduceEqDiff, Nat.reduceAdd, Nat.zero_add, not_false_eq_true, not_true_eq_false]; done) | (simp only [wk, wt, wl, ↓reduceIte, Nat.reduceEqDiff, Nat.reduceAdd, Nat.zero_add, not_false_eq_true, not_true_eq_false]; rfl)), (by first | rfl | (simp only [wk, wt, wl, ↓reduceIte, Nat.reduceEqDiff, Nat.reduceAdd, Nat.zero_add, not_false_eq_true, not_true_eq_false]; done) | (simp only [wk, wt, wl, ↓reduceIte, Nat.reduceEqDiff, Nat.reduceAdd, Nat.zero_add, not_false_eq_true, not_true_eq_false]; rfl)), V0, 0, .slice none 0 0, [], (by first | rfl | (simp only [wk, wt, wl, ↓reduceIte, Nat.reduceEqDiff, Nat.reduceAdd, Nat.zero_add, not_false_eq_true, not_true_eq_false]; done) | (simp only [wk, wt, wl, ↓reduceIte, Nat.reduceEqDiff, Nat.reduceAdd, Nat.zero_add, not_false_eq_true, not_true_eq_false]; rfl)), (by first | rfl | (simp only [wk, wt, wl, ↓reduceIte, Nat.reduceEqDiff, Nat.reduceAdd, Nat.zero_add, not_false_eq_true, not_true_eq_false]; done) | (simp only [wk, wt, wl, ↓reduceIte, Nat.reduceEqDiff, Nat.reduceAdd, Nat.zero_add, not_false_eq_true, not_true_eq_false]; rfl)), by omega, OS.nil, (fun y hy => by cases hy), by simp, rfl⟩ ?_
  clear V0 K0
  rintro tm h' ⟨K, t0, t3, t5, t6, V0, i, ov', out, t8, t7, hi, O, hov, hol, hfm⟩
  have R' : FR h' v l := RS.keeps R K
  simp (disch := omega) only [wk, wt, wl, ↓reduceIte, Nat.reduceEqDiff, Nat.reduceAdd, Nat.zero_add, not_false_eq_true, not_true_eq_false, t0, t3, t5, t6, t7, t8, R'.len underlying22]
  refine condK_dec (fun hd => ?_) (fun hd => ?_)
  · have hi1 : i < l.length := by omega
    obtain ⟨f, hx⟩ : ∃ f, l[i]? = some f := ⟨l[i], by simp [hi1]⟩
    have hf := r1 i f hx
    have hnf := nearF_at hn hx
    obtain ⟨F0, F1, F2, F3⟩ := R'.flds hx
    have IX := Rd.index R' underlying22 asz36 (q := .i64) (i := (i : Int)) (by omega) (by omega)
    simp only [Int.toNat_natCast] at IX
    simp (disch := omega) only [wk, wt, wl, ↓reduceIte, Nat.reduceEqDiff, Nat.reduceAdd, Nat.zero_add, not_false_eq_true, not_true_eq_false, t0, t3, t5, t6, t7, t8, IX, F3]
    have K3 := Keeps.new (Ch.wf K) 36 [Value.int IntKind.i64 0, Value.int IntKind.i64 0, Value.bool false]
    have V3 := Var.new (e := 36) (Ch.wf K) (cs := [Value.int IntKind.i64 0, Value.int IntKind.i64 0, Value.bool false])
    obtain ⟨h4, e4, V4, C4, z4⟩ := V3.store (P := prog) (t := 36) (v := .agg #[.int .i64 f.fr, .int .i64 f.to, .bool f.cl]) (i := 0) (Ch.wf K3) asz36 (by simp [Value.cells]) (by simp [Value.cells, one])
    rw [e4]; clear e4
    simp only [Value.cells, over_all (xs := [Value.int IntKind.i64 0, Value.int IntKind.i64 0, Value.bool false]) (vs := [.int .i64 f.fr, .int .i64 f.to, .bool f.cl]) rfl] at V4
    have K14 := K3.step C4 (fun b hb => by omega)
    have WW := fun {hh : Heap} {a b : Int} (V : Var hh h'.size [.int .i64 a, .int .i64 b, .bool f.cl]) => And.intro (V.load1 (P := prog) (t := 3) underlying3 rfl (i := 0)) (V.load1 (P := prog) (t := 3) underlying3 rfl (i := 1))
    simp only [List.getElem?_cons_succ, List.getElem?_cons_zero] at WW
    have V04 := Keeps.var (Ch.wf K) K14 V0
    have hlt0 := V0.lt (Ch.wf K)
    have wb : IntKind.i64.wrap (f.to + ((n : Int) - o)) = f.to + ((n : Int) - o) := IntWalk.i64_in _ (by omega)
    have wa : IntKind.i64.wrap (f.fr + ((n : Int) - o)) = f.fr + ((n : Int) - o) := IntWalk.i64_in _ (by omega)
    have wn : IntKind.i64.wrap ((n : Int) - o) = (n : Int) - o := IntWalk.i64_in _ (by omega)
    have hlt4 := V4.lt (Ch.wf K14)
    have hle4 := Ch.le K14
    have hfc : ∀ x : Int, -1099511627776 ≤ x → x ≤ 1099511627776 → IntKind.i64.wrap (x - c) = x - c := fun x h1 h2 => IntWalk.i64_in _ (by omega)
    have wfr := hfc f.fr (by omega) (by omega)
    have wto := hfc f.to (by omega) (by omega)
    by_cases hA : f.to < c
    · have d0 : decide (f.to < c) = true := decide_eq_true hA
      have d1 : decide (f.fr < c) = true := decide_eq_true (by omega)
      simp (disch := omega) only [wk, wt, wl, ↓reduceIte, Nat.reduceEqDiff, Nat.reduceAdd, Nat.zero_add, not_false_eq_true, not_true_eq_false, t0, t3, t5, t6, t7, t8, WW V4, WC V04, wfr, wto, d0, d1]
      by_cases hlt : f.fr < f.to
      · have dl : decide (f.fr < f.to) = true := decide_eq_true hlt
        have hadj : adjF c o n f = some ⟨f.fr, f.to, f.cl⟩ := by unfold adjF keepF; simp [hA, hlt]
        simp (disch := omega) only [wk, wt, wl, ↓reduceIte, Nat.reduceEqDiff, Nat.reduceAdd, Nat.zero_add, not_false_eq_true, not_true_eq_false, t0, t3, t5, t6, t7, t8, WW V4, dl, (V4).loadA (P := prog) (t := 36) underlying36 rfl asz36, bsf]
        obtain ⟨v2, h2, e2, O2, C2, R2, ev2⟩ := (O.keeps K14).append1 (P := prog) (Ch.wf K14) (by have := Ch.le K; have := Ch.le K14; omega) underlying22 elem36 fits36 (by decide) (by decide) ⟨f.fr, f.to, f.cl⟩ rfl (by omega)
        rw [e2]; clear e2
        have KK := (K.trans K14).step C2 fun b hb => hb.2
        have VV := Ch.var (Ch.wf K14) C2 (Keeps.var (Ch.wf K) K14 V0) fun e => hov _ e.1 rfl
        simp (disch := omega) only [wk, wt, wl, ↓reduceIte, Nat.reduceEqDiff, Nat.reduceAdd, Nat.zero_add, not_false_eq_true, not_true_eq_false, t0, t3, t5, t6, t8, IntWalk.i64_in, intOf_int]
        refine ⟨⟨KK, VV, i + 1, v2, out ++ [⟨f.fr, f.to, f.cl⟩], by simp, rfl, by omega, O2, fun y hy => ?_, by simp only [List.length_append, List.length_singleton]; omega, (adj_next hx hfm).2 _ hadj⟩, by omega⟩
        rw [ev2] at hy; simp only [blkOf, Option.some.injEq] at hy; have := Ch.le K; have := Ch.le K14; omega
      · have dl : decide (f.fr < f.to) = false := decide_eq_false hlt
        have hadj : adjF c o n f = none := by unfold adjF keepF; simp [hA, hlt]
        simp (disch := omega) only [wk, wt, wl, ↓reduceIte, Nat.reduceEqDiff, Nat.reduceAdd, Nat.zero_add, not_false_eq_true, not_true_eq_false, t0, t3, t5, t6, t7, t8, WW V4, dl, IntWalk.i64_in, intOf_int]
        exact ⟨⟨K.trans K14, Keeps.var (Ch.wf K) K14 V0, i + 1, ov', out, by simp, rfl, by omega, O.keeps K14, hov, by omega, (adj_next hx hfm).1 hadj⟩, by omega⟩
    · have d0 : decide (f.to < c) = false := decide_eq_false hA
      by_cases hah : f.fr < c
      · have d1 : decide (f.fr < c) = true := decide_eq_true hah
        have d4 : decide ((o : Int) ≤ f.fr - c) = false := decide_eq_false (by omega)
        by_cases hbe : c + o ≤ f.to
        · have d2 : decide ((o : Int) ≤ f.to - c) = true := decide_eq_true (by omega)
          obtain ⟨h6, e6, V6, C6, z6⟩ := V4.store1 (P := prog) (t := 3) (v := .int .i64 (f.to + ((n : Int) - o))) (i := 1) (Ch.wf K14) asz3 (by simp) rfl
          simp only [List.set_cons_succ, List.set_cons_zero] at V6
          have K16 := K14.step C6 (fun b hb => by omega)
          simp (disch := omega) only [wk, wt, wl, ↓reduceIte, Nat.reduceEqDiff, Nat.reduceAdd, Nat.zero_add, not_false_eq_true, not_true_eq_false, t0, t3, t5, t6, t7, t8, WW V4, WC V04, wfr, wto, d0, d1, d2, d4, Bool.not_true, Bool.not_false, wn, wb, e6]
          by_cases hlt : f.fr < f.to + ((n : Int) - o)
          · have dl : decide (f.fr < f.to + ((n : Int) - o)) = true := decide_eq_true hlt
            have hadj : adjF c o n f = some ⟨f.fr, f.to + ((n : Int) - o), f.cl⟩ := by unfold adjF keepF; simp [hA, hah, hbe, hlt]
            simp (disch := omega) only [wk, wt, wl, ↓reduceIte, Nat.reduceEqDiff, Nat.reduceAdd, Nat.zero_add, not_false_eq_true, not_true_eq_false, t0, t3, t5, t6, t7, t8, WW V6, dl, (V6).loadA (P := prog) (t := 36) underlying36 rfl asz36, bsf]
            obtain ⟨v2, h2, e2, O2, C2, R2, ev2⟩ := (O.keeps K16).append1 (P := prog) (Ch.wf K16) (by have := Ch.le K; have := Ch.le K16; omega) underlying22 elem36 fits36 (by decide) (by decide) ⟨f.fr, f.to + ((n : Int) - o), f.cl⟩ rfl (by omega)
            rw [e2]; clear e2
            have KK := (K.trans K16).step C2 fun b hb => hb.2
            have VV := Ch.var (Ch.wf K16) C2 (Keeps.var (Ch.wf K) K16 V0) fun e => hov _ e.1 rfl
            simp (disch := omega) only [wk, wt, wl, ↓reduceIte, Nat.reduceEqDiff, Nat.reduceAdd, Nat.zero_add, not_false_eq_true, not_true_eq_false, t0, t3, t5, t6, t8, IntWalk.i64_in, intOf_int]
            refine ⟨⟨KK, VV, i + 1, v2, out ++ [⟨f.fr, f.to + ((n : Int) - o), f.cl⟩], by simp, rfl, by omega, O2, fun y hy => ?_, by simp only [List.length_append, List.length_singleton]; omega, (adj_next hx hfm).2 _ hadj⟩, by omega⟩
            rw [ev2] at hy; simp only [blkOf, Option.some.injEq] at hy; have := Ch.le K; have := Ch.le K16; omega
          · have dl : decide (f.fr < f.to + ((n : Int) - o)) = false := decide_eq_false hlt
            have hadj : adjF c o n f = none := by unfold adjF keepF; simp [hA, hah, hbe, hlt]
            simp (disch := omega) only [wk, wt, wl, ↓reduceIte, Nat.reduceEqDiff, Nat.reduceAdd, Nat.zero_add, not_false_eq_true, not_true_eq_false, t0, t3, t5, t6, t7, t8, WW V6, dl, IntWalk.i64_in, intOf_int]
            exact ⟨⟨K.trans K16, Keeps.var (Ch.wf K) K16 V0, i + 1, ov', out, by simp, rfl, by omega, O.keeps K16, hov, by omega, (adj_next hx hfm).1 hadj⟩, by omega⟩
        · have d2 : decide ((o : Int) ≤ f.to - c) = false := decide_eq_false (by omega)
          obtain ⟨h6, e6, V6, C6, z6⟩ := V4.store1 (P := prog) (t := 3) (v := .int .i64 (c - 1)) (i := 1) (Ch.wf K14) asz3 (by simp) rfl
          simp only [List.set_cons_succ, List.set_cons_zero] at V6
          have K16 := K14.step C6 (fun b hb => by omega)
          simp (disch := omega) only [wk, wt, wl, ↓reduceIte, Nat.reduceEqDiff, Nat.reduceAdd, Nat.zero_add, not_false_eq_true, not_true_eq_false, t0, t3, t5, t6, t7, t8, WW V4, WC V04, wfr, wto, d0, d1, d2, d4, Bool.not_true, Bool.not_false, IntWalk.i64_in, e6]
          by_cases hlt : f.fr < c - 1
          · have dl : decide (f.fr < c - 1) = true := decide_eq_true hlt
            have hadj : adjF c o n f = some ⟨f.fr, c - 1, f.cl⟩ := by unfold adjF keepF; simp [hA, hah, hbe, hlt]
            simp (disch := omega) only [wk, wt, wl, ↓reduceIte, Nat.reduceEqDiff, Nat.reduceAdd, Nat.zero_add, not_false_eq_true, not_true_eq_false, t0, t3, t5, t6, t7, t8, WW V6, dl, (V6).loadA (P := prog) (t := 36) underlying36 rfl asz36, bsf]
            obtain ⟨v2, h2, e2, O2, C2, R2, ev2⟩ := (O.keeps K16).append1 (P := prog) (Ch.wf K16) (by have := Ch.le K; have := Ch.le K16; omega) underlying22 elem36 fits36 (by decide) (by decide) ⟨f.fr, c - 1, f.cl⟩ rfl (by omega)
            rw [e2]; clear e2
            have KK := (K.trans K16).step C2 fun b hb => hb.2
            have VV := Ch.var (Ch.wf K16) C2 (Keeps.var (Ch.wf K) K16 V0) fun e => hov _ e.1 rfl
            simp (disch := omega) only [wk, wt, wl, ↓reduceIte, Nat.reduceEqDiff, Nat.reduceAdd, Nat.zero_add, not_false_eq_true, not_true_eq_false, t0, t3, t5, t6, t8, IntWalk.i64_in, intOf_int]
            refine ⟨⟨KK, VV, i + 1, v2, out ++ [⟨f.fr, c - 1, f.cl⟩], by simp, rfl, by omega, O2, fun y hy => ?_, by simp only [List.length_append, List.length_singleton]; omega, (adj_next hx hfm).2 _ hadj⟩, by omega⟩
            rw [ev2] at hy; simp only [blkOf, Option.some.injEq] at hy; have := Ch.le K; have := Ch.le K16; omega
          · have dl : decide (f.fr < c - 1) = false := decide_eq_false hlt
            have hadj : adjF c o n f = none := by unfold adjF keepF; simp [hA, hah, hbe, hlt]
            simp (disch := omega) only [wk, wt, wl, ↓reduceIte, Nat.reduceEqDiff, Nat.reduceAdd, Nat.zero_add, not_false_eq_true, not_true_eq_false, t0, t3, t5, t6, t7, t8, WW V6, dl, IntWalk.i64_in, intOf_int]
            exact ⟨⟨K.trans K16, Keeps.var (Ch.wf K) K16 V0, i + 1, ov', out, by simp, rfl, by omega, O.keeps K16, hov, by omega, (adj_next hx hfm).1 hadj⟩, by omega⟩
      · have d1 : decide (f.fr < c) = false := decide_eq_false hah
        by_cases hin : f.fr < c + o
        · have d3 : decide ((o : Int) ≤ f.fr - c) = false := decide_eq_false (by omega)
          by_cases hbe : c + o ≤ f.to
          · have d2 : decide ((o : Int) ≤ f.to - c) = true := decide_eq_true (by omega)
            obtain ⟨h5, e5, V5, C5, z5⟩ := V4.store1 (P := prog) (t := 3) (v := .int .i64 (c + (n : Int))) (i := 0) (Ch.wf K14) asz3 (by simp) rfl
            simp only [List.set_cons_succ, List.set_cons_zero] at V5
            have K15 := K14.step C5 (fun b hb => by omega)
            obtain ⟨h6, e6, V6, C6, z6⟩ := V5.store1 (P := prog) (t := 3) (v := .int .i64 (f.to + ((n : Int) - o))) (i := 1) (Ch.wf K15) asz3 (by simp) rfl
            simp only [List.set_cons_succ, List.set_cons_zero] at V6
            have K16 := K15.step C6 (fun b hb => by omega)
            have wcn : IntKind.i64.wrap (c + (n : Int)) = c + (n : Int) := IntWalk.i64_in _ (by omega)
            simp (disch := omega) only [wk, wt, wl, ↓reduceIte, Nat.reduceEqDiff, Nat.reduceAdd, Nat.zero_add, not_false_eq_true, not_true_eq_false, t0, t3, t5, t6, t7, t8, WW V4, WC V04, wfr, wto, d0, d1, d2, d3, Bool.not_false, wcn, e5]
            simp (disch := omega) only [wk, wt, wl, ↓reduceIte, Nat.reduceEqDiff, Nat.reduceAdd, Nat.zero_add, not_false_eq_true, not_true_eq_false, t0, t3, t5, t6, t7, t8, WW V5, wn, wb, e6]
            by_cases hlt : c + (n : Int) < f.to + ((n : Int) - o)
            · have dl : decide (c + (n : Int) < f.to + ((n : Int) - o)) = true := decide_eq_true hlt
              have hadj : adjF c o n f = some ⟨c + (n : Int), f.to + ((n : Int) - o), f.cl⟩ := by unfold adjF keepF; simp [hA, hah, hbe, hin, hlt]
              simp (disch := omega) only [wk, wt, wl, ↓reduceIte, Nat.reduceEqDiff, Nat.reduceAdd, Nat.zero_add, not_false_eq_true, not_true_eq_false, t0, t3, t5, t6, t7, t8, WW V6, dl, (V6).loadA (P := prog) (t := 36) underlying36 rfl asz36, bsf]
              obtain ⟨v2, h2, e2, O2, C2, R2, ev2⟩ := (O.keeps K16).append1 (P := prog) (Ch.wf K16) (by have := Ch.le K; have := Ch.le K16; omega) underlying22 elem36 fits36 (by decide) (by decide) ⟨c + (n : Int), f.to + ((n : Int) - o), f.cl⟩ rfl (by omega)
              rw [e2]; clear e2
              have KK := (K.trans K16).step C2 fun b hb => hb.2
              have VV := Ch.var (Ch.wf K16) C2 (Keeps.var (Ch.wf K) K16 V0) fun e => hov _ e.1 rfl
              simp (disch := omega) only [wk, wt, wl, ↓reduceIte, Nat.reduceEqDiff, Nat.reduceAdd, Nat.zero_add, not_false_eq_true, not_true_eq_false, t0, t3, t5, t6, t8, IntWalk.i64_in, intOf_int]
              refine ⟨⟨KK, VV, i + 1, v2, out ++ [⟨c + (n : Int), f.to + ((n : Int) - o), f.cl⟩], by simp, rfl, by omega, O2, fun y hy => ?_, by simp only [List.length_append, List.length_singleton]; omega, (adj_next hx hfm).2 _ hadj⟩, by omega⟩
              rw [ev2] at hy; simp only [blkOf, Option.some.injEq] at hy; have := Ch.le K; have := Ch.le K16; omega
            · have dl : decide (c + (n : Int) < f.to + ((n : Int) - o)) = false := decide_eq_false hlt
              have hadj : adjF c o n f = none := by unfold adjF keepF; simp [hA, hah, hbe, hin, hlt]
              simp (disch := omega) only [wk, wt, wl, ↓reduceIte, Nat.reduceEqDiff, Nat.reduceAdd, Nat.zero_add, not_false_eq_true, not_true_eq_false, t0, t3, t5, t6, t7, t8, WW V6, dl, IntWalk.i64_in, intOf_int]
              exact ⟨⟨K.trans K16, Keeps.var (Ch.wf K) K16 V0, i + 1, ov', out, by simp, rfl, by omega, O.keeps K16, hov, by omega, (adj_next hx hfm).1 hadj⟩, by omega⟩
          · have d2 : decide ((o : Int) ≤ f.to - c) = false := decide_eq_false (by omega)
            have hadj : adjF c o n f = none := by unfold adjF keepF; simp [hA, hah, hbe, hin]
            simp (disch := omega) only [wk, wt, wl, ↓reduceIte, Nat.reduceEqDiff, Nat.reduceAdd, Nat.zero_add, not_false_eq_true, not_true_eq_false, t0, t3, t5, t6, t7, t8, WW V4, WC V04, wfr, wto, d0, d1, d2, d3, Bool.not_false, IntWalk.i64_in]
            simp (disch := omega) only [wk, wt, wl, ↓reduceIte, Nat.reduceEqDiff, Nat.reduceAdd, Nat.zero_add, not_false_eq_true, not_true_eq_false, intOf_int, IntWalk.i64_in]
            exact ⟨⟨K.trans K14, V04, i + 1, ov', out, by simp, rfl, by omega, O.keeps K14, hov, by omega, (adj_next hx hfm).1 hadj⟩, by omega⟩
        · have d3 : decide ((o : Int) ≤ f.fr - c) = true := decide_eq_true (by omega)
          have hbe : c + o ≤ f.to := by omega
          have d2 : decide ((o : Int) ≤ f.to - c) = true := decide_eq_true (by omega)
          obtain ⟨h5, e5, V5, C5, z5⟩ := V4.store1 (P := prog) (t := 3) (v := .int .i64 (f.fr + ((n : Int) - o))) (i := 0) (Ch.wf K14) asz3 (by simp) rfl
          simp only [List.set_cons_succ, List.set_cons_zero] at V5
          have K15 := K14.step C5 (fun b hb => by omega)
          obtain ⟨h6, e6, V6, C6, z6⟩ := V5.store1 (P := prog) (t := 3) (v := .int .i64 (f.to + ((n : Int) - o))) (i := 1) (Ch.wf K15) asz3 (by simp) rfl
          simp only [List.set_cons_succ, List.set_cons_zero] at V6
          have K16 := K15.step C6 (fun b hb => by omega)
          simp (disch := omega) only [wk, wt, wl, ↓reduceIte, Nat.reduceEqDiff, Nat.reduceAdd, Nat.zero_add, not_false_eq_true, not_true_eq_false, t0, t3, t5, t6, t7, t8, WW V4, WC V04, wfr, wto, d0, d1, d2, d3, Bool.not_false, wn, wa, e5]
          simp (disch := omega) only [wk, wt, wl, ↓reduceIte, Nat.reduceEqDiff, Nat.reduceAdd, Nat.zero_add, not_false_eq_true, not_true_eq_false, t0, t3, t5, t6, t7, t8, WW V5, wn, wb, e6]
          by_cases hlt : f.fr + ((n : Int) - o) < f.to + ((n : Int) - o)
          · have dl : decide (f.fr + ((n : Int) - o) < f.to + ((n : Int) - o)) = true := decide_eq_true hlt
            have hadj : adjF c o n f = some ⟨f.fr + ((n : Int) - o), f.to + ((n : Int) - o), f.cl⟩ := by unfold adjF keepF; simp [hA, hah, hin, hlt]
            simp (disch := omega) only [wk, wt, wl, ↓reduceIte, Nat.reduceEqDiff, Nat.reduceAdd, Nat.zero_add, not_false_eq_true, not_true_eq_false, t0, t3, t5, t6, t7, t8, WW V6, dl, (V6).loadA (P := prog) (t := 36) underlying36 rfl asz36, bsf]
            obtain ⟨v2, h2, e2, O2, C2, R2, ev2⟩ := (O.keeps K16).append1 (P := prog) (Ch.wf K16) (by have := Ch.le K; have := Ch.le K16; omega) underlying22 elem36 fits36 (by decide) (by decide) ⟨f.fr + ((n : Int) - o), f.to + ((n : Int) - o), f.cl⟩ rfl (by omega)
            rw [e2]; clear e2
            have KK := (K.trans K16).step C2 fun b hb => hb.2
            have VV := Ch.var (Ch.wf K16) C2 (Keeps.var (Ch.wf K) K16 V0) fun e => hov _ e.1 rfl
            simp (disch := omega) only [wk, wt, wl, ↓reduceIte, Nat.reduceEqDiff, Nat.reduceAdd, Nat.zero_add, not_false_eq_true, not_true_eq_false, t0, t3, t5, t6, t8, IntWalk.i64_in, intOf_int]
            refine ⟨⟨KK, VV, i + 1, v2, out ++ [⟨f.fr + ((n : Int) - o), f.to + ((n : Int) - o), f.cl⟩], by simp, rfl, by omega, O2, fun y hy => ?_, by simp only [List.length_append, List.length_singleton]; omega, (adj_next hx hfm).2 _ hadj⟩, by omega⟩
            rw [ev2] at hy; simp only [blkOf, Option.some.injEq] at hy; have := Ch.le K; have := Ch.le K16; omega
          · have dl : decide (f.fr + ((n : Int) - o) < f.to + ((n : Int) - o)) = false := decide_eq_false hlt
            have hadj : adjF c o n f = none := by unfold adjF keepF; simp [hA, hah, hin, hlt]
            simp (disch := omega) only [wk, wt, wl, ↓reduceIte, Nat.reduceEqDiff, Nat.reduceAdd, Nat.zero_add, not_false_eq_true, not_true_eq_false, t0, t3, t5, t6, t7, t8, WW V6, dl, IntWalk.i64_in, intOf_int]
            exact ⟨⟨K.trans K16, Keeps.var (Ch.wf K) K16 V0, i + 1, ov', out, by simp, rfl, by omega, O.keeps K16, hov, by omega, (adj_next hx hfm).1 hadj⟩, by omega⟩
  · rw [List.drop_of_length_le (by omega)] at hfm
    simp (disch := omega) only [wk, wt, wl, ↓reduceIte, Nat.reduceEqDiff, Nat.reduceAdd, Nat.zero_add, not_false_eq_true, not_true_eq_false, t7]
    simp only [List.filterMap_nil, List.append_nil] at hfm
    rw [← hfm]
    exact ⟨O.rs, K⟩
end Go.Proofs.Ytgfccaaalkkdlaa.Am
