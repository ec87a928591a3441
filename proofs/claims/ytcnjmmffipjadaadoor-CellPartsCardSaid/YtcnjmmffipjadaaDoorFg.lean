/- The units of any line: the contract of cell.Units, by a walk. -/
import Derived.Test.YtcnjmmffipjadaaDoorFf
set_option linter.unusedSimpArgs false
set_option linter.unusedVariables false
set_option maxHeartbeats 2000000
namespace Go.Proofs.YtcnjmmffipjadaaDoor.Am
open Go Go.RowKit Go.Proofs.Tryd
theorem ustep_push {line : List Int} {tab : Int} {i : Nat} {r : Int} {us : List U} {col : Int} (h : us = [] ∨ ¬ zeroB r = true ∨ ∃ u, us.getLast? = some u ∧ joins line i u = false) :
    ustep line tab i r (us, col) = (us ++ [⟨i, i + 1, col, uwidth r col tab, utext r col tab⟩], col + uwidth r col tab) := by
  unfold ustep
  simp only
  cases hl : us.getLast? with
  | none => rfl
  | some u =>
    simp only
    rw [if_neg]
    rintro ⟨h1, h2⟩
    rcases h with h | h | ⟨u', h3, h4⟩
    · subst h; simp at hl
    · exact h h1
    · rw [hl] at h3; cases h3; rw [h2] at h4; cases h4
theorem ustep_join {line : List Int} {tab : Int} {i : Nat} {r : Int} {pre : List U} {u : U} {col : Int} (h1 : zeroB r = true) (h2 : joins line i u = true) :
    ustep line tab i r (pre ++ [u], col) = (pre ++ [{ u with to := i + 1, tx := u.tx ++ [r] }], col) := by
  unfold ustep
  simp [h1, h2]
theorem units_ok {a : Value} {line : List Int} {tab : Int} {h : Heap} (ha : RdI prog h .i32 a line) (G : Gl h) (hline : ∀ j, isR (line.getD j 0)) (hlen : line.length ≤ 10000) :
    ACalls prog 20 #[a, .int .i64 tab] h (fun v h' => ∃ uv, uv.map (·.1) = unitsL line tab ∧ UR h' v uv ∧ Keeps h h') := by
  refine acalls_of_W' func20 rfl (by kernel_rfl) (by kernel_rfl) (by simp [ntmps20]) ?_
  intro H
  simp only [wk, wt, wl, ↓reduceIte, Nat.reduceEqDiff, Nat.reduceAdd, Nat.zero_add, not_false_eq_true, not_true_eq_false, RdI.len ha underlying24]
  repeat' (first
      | (with_reducible refine condK_dec (fun hc => ?_) (fun hc => ?_) <;> simp only [wk, wt, wl, ↓reduceIte, Nat.reduceEqDiff, Nat.reduceAdd, Nat.zero_add, not_false_eq_true, not_true_eq_false, RdI.len ha underlying24, hc])
      | (with_reducible refine condK_split (fun hc => ?_) (fun hc => ?_) <;> simp only [wk, wt, wl, ↓reduceIte, Nat.reduceEqDiff, Nat.reduceAdd, Nat.zero_add, not_false_eq_true, not_true_eq_false, RdI.len ha underlying24, hc])
      | (with_reducible refine gateO_dec (fun hc => ?_) (fun hc => ?_) <;> simp only [wk, wt, wl, ↓reduceIte, Nat.reduceEqDiff, Nat.reduceAdd, Nat.zero_add, not_false_eq_true, not_true_eq_false, RdI.len ha underlying24, hc])
      | (with_reducible refine gateO_decF (fun hc => ?_) (fun hc => ?_) <;> simp only [wk, wt, wl, ↓reduceIte, Nat.reduceEqDiff, Nat.reduceAdd, Nat.zero_add, not_false_eq_true, not_true_eq_false, RdI.len ha underlying24, hc])
      | (with_reducible refine gateO_boolT (fun hc => ?_) (fun hc => ?_) <;> simp only [wk, wt, wl, ↓reduceIte, Nat.reduceEqDiff, Nat.reduceAdd, Nat.zero_add, not_false_eq_true, not_true_eq_false, RdI.len ha underlying24, hc])
      | (with_reducible refine gateO_boolF (fun hc => ?_) (fun hc => ?_) <;> simp only [wk, wt, wl, ↓reduceIte, Nat.reduceEqDiff, Nat.reduceAdd, Nat.zero_add, not_false_eq_true, not_true_eq_false, RdI.len ha underlying24, hc]))
  all_goals
    refine W_loop (fun tm h' => Keeps h h' ∧ tm 0 = a ∧ tm 1 = .int .i64 (tabZ tab) ∧ tm 19 = a ∧ tm 20 = .int .i64 line.length ∧ ∃ (i : Nat) (l : Value) (uv : List (U × Value)), tm 21 = .int .i64 i ∧ i ≤ line.length ∧
      tm 6 = .int .i64 (unitsTo line (tabZ tab) i).2 ∧ tm 5 = l ∧ UL h.size h' l uv ∧ uv.map (·.1) = (unitsTo line (tabZ tab) i).1) (fun tm _ => (line.length - intOf (tm 21)).toNat)
      ⟨Keeps.refl H, (by first | rfl | (simp only [wk, wt, wl, ↓reduceIte, Nat.reduceEqDiff, Nat.reduceAdd, Nat.zero_add, not_false_eq_true, not_true_eq_false]; done) | (simp only [wk, wt, wl, ↓reduceIte, Nat.reduceEqDiff, Nat.reduceAdd, Nat.zero_add, not_false_eq_true, not_true_eq_false]; rfl)), by (simp only [wk, wt, wl, ↓reduceIte, Nat.reduceEqDiff, Nat.reduceAdd, Nat.zero_add, not_false_eq_true, not_true_eq_false]); simp only [tabZ, Value.int.injEq, true_and]; first | (rw [if_pos (by omega)]; done) | (rw [if_neg (by omega)]; done), (by first | rfl | (simp only [wk, wt, wl, ↓reduceIte, Nat.reduceEqDiff, Nat.reduceAdd, Nat.zero_add, not_false_eq_true, not_true_eq_false]; done) | (simp only [wk, wt, wl, ↓reduceIte, Nat.reduceEqDiff, Nat.reduceAdd, Nat.zero_add, not_false_eq_true, not_true_eq_false]; rfl)), (by first | rfl | (simp only [wk, wt, wl, ↓reduceIte, Nat.reduceEqDiff, Nat.reduceAdd, Nat.zero_add, not_false_eq_true, not_true_eq_false]; done) | (simp only [wk, wt, wl, ↓reduceIte, Nat.reduceEqDiff, Nat.reduceAdd, Nat.zero_add, not_false_eq_true, not_true_eq_false]; rfl)), 0, .slice none 0 0, [], (by first | rfl | (simp only [wk, wt, wl, ↓reduceIte, Nat.reduceEqDiff, Nat.reduceAdd, Nat.zero_add, not_false_eq_true, not_true_eq_false]; done) | (simp only [wk, wt, wl, ↓reduceIte, Nat.reduceEqDiff, Nat.reduceAdd, Nat.zero_add, not_false_eq_true, not_true_eq_false]; rfl)), by omega, (by first | rfl | (simp only [wk, wt, wl, ↓reduceIte, Nat.reduceEqDiff, Nat.reduceAdd, Nat.zero_add, not_false_eq_true, not_true_eq_false]; done) | (simp only [wk, wt, wl, ↓reduceIte, Nat.reduceEqDiff, Nat.reduceAdd, Nat.zero_add, not_false_eq_true, not_true_eq_false]; rfl)), (by first | rfl | (simp only [wk, wt, wl, ↓reduceIte, Nat.reduceEqDiff, Nat.reduceAdd, Nat.zero_add, not_false_eq_true, not_true_eq_false]; done) | (simp only [wk, wt, wl, ↓reduceIte, Nat.reduceEqDiff, Nat.reduceAdd, Nat.zero_add, not_false_eq_true, not_true_eq_false]; rfl)), UL.nil, rfl⟩ ?_
    rintro tm h' ⟨K, t0, t1, t19, t20, i, l, uv, t21, hi, t6, t5, L, hus⟩
    have UO := unitsTo_ok (line := line) (tabZ_range tab) i
    have ha' := ha.keeps K
    have hlen' : uv.length = (unitsTo line (tabZ tab) i).1.length := by rw [← hus]; simp
    have hul := UO.len
    have hc0 := UO.col0
    have hc1 := UO.col1
    simp only [wk, wt, wl, ↓reduceIte, Nat.reduceEqDiff, Nat.reduceAdd, Nat.zero_add, not_false_eq_true, not_true_eq_false, t0, t1, t19, t20, t21]
    refine condK_dec (fun hd => ?_) (fun hd => ?_)
    · simp only [wk, wt, wl, ↓reduceIte, Nat.reduceEqDiff, Nat.reduceAdd, Nat.zero_add, not_false_eq_true, not_true_eq_false, t0, t1, t5, t6, t19, t20, t21, RdI.index ha' underlying24 asz21 (q := .i64) (i := i) (by omega) (by omega), RdI.at ha' underlying21 rfl (i := i) (by omega), Rd.len L.own.1 underlying33]
      refine gateO_dec (fun hn => ?_) (fun hn => ?_)
      · simp only [wk, wt, wl, ↓reduceIte, Nat.reduceEqDiff, Nat.reduceAdd, Nat.zero_add, not_false_eq_true, not_true_eq_false, t0, t1, t5, t6, t19, t20, t21, hn]
        refine (width_ok (hline i) (G.keeps K)).use_pure ?_
        simp only [wk, wt, wl, ↓reduceIte, Nat.reduceEqDiff, Nat.reduceAdd, Nat.zero_add, not_false_eq_true, not_true_eq_false, t0, t1, t5, t6, t19, t20, t21, hn]
        refine condK_dec (fun hz => ?_) (fun hz => ?_)
        · have hne : uv ≠ [] := by intro e; subst e; simp at hn
          obtain ⟨pre, ⟨u, tv⟩, rfl⟩ : ∃ pre x, uv = pre ++ [x] := ⟨uv.dropLast, uv.getLast hne, (List.dropLast_concat_getLast hne).symm⟩
          have hlast : (unitsTo line (tabZ tab) i).1.getLast? = some u := by rw [← hus]; simp
          have hu := UO.each u (List.mem_of_getLast? hlast)
          have hcl := fun (j : Nat) (hj : j < 5) => (L.own.1.at (t := 3) underlying3 rfl (i := pre.length) (j := j) (by simp) hj).trans (cellsU_at (x := (u, tv)) (by simp) hj)
          have F0 : aload prog h' 3 ⟨(eltA l 5 pre.length).block, (eltA l 5 pre.length).off + 0, none⟩ = some (.int .i64 u.fr) := hcl 0 (by omega)
          have F4 : aload prog h' 24 ⟨(eltA l 5 pre.length).block, (eltA l 5 pre.length).off + 4, none⟩ = some tv := (L.own.1.at (t := 24) underlying24 rfl (i := pre.length) (j := 4) (by simp) (by omega)).trans (cellsU_at (x := (u, tv)) (by simp) (by omega))
          have hll : ((pre ++ [(u, tv)]).length : Int) = (pre.length : Int) + 1 := by simp
          have hidx : ((pre.length : Int) + 1 - 1).toNat = pre.length := by omega
          have hp : pre.length + 1 = (unitsTo line (tabZ tab) i).1.length := by rw [← hlen']; simp
          rw [hll]
          rw [hll] at hn
          simp (disch := omega) only [wk, wt, wl, ↓reduceIte, Nat.reduceEqDiff, Nat.reduceAdd, Nat.zero_add, not_false_eq_true, not_true_eq_false, t0, t1, t5, t6, t19, t20, t21, hn, IntWalk.i64_in, Rd.index L.own.1 underlying33 asz36 (q := .i64) (i := (pre.length : Int) + 1 - 1) (by omega) (by simp only [List.length_append, List.length_singleton]; omega), hidx, F0, RdI.index ha' underlying24 asz21 (q := .i64) (i := u.fr) (by omega) (by omega), RdI.at ha' underlying21 rfl (i := u.fr.toNat) (by omega)]
          refine (width_ok (hline _) (G.keeps K)).use_pure ?_
          simp only [wk, wt, wl, ↓reduceIte, Nat.reduceEqDiff, Nat.reduceAdd, Nat.zero_add, not_false_eq_true, not_true_eq_false, t0, t1, t5, t6, t19, t20, t21, hn]
          refine condK_dec (fun hz2 => ?_) (fun hz2 => ?_)
          · have hz3 := widthZ_zero.1 hz2
            simp (disch := omega) only [wk, wt, wl, ↓reduceIte, Nat.reduceEqDiff, Nat.reduceAdd, Nat.zero_add, not_false_eq_true, not_true_eq_false, t0, t1, t5, t6, t19, t20, t21, IntWalk.i64_in, F0, RdI.index ha' underlying24 asz21 (q := .i64) (i := u.fr) (by omega) (by omega), RdI.at ha' underlying21 rfl (i := u.fr.toNat) (by omega)]
            refine gateO_dec (fun h9 => ?_) (fun h9 => ?_)
            · simp (disch := omega) only [wk, wt, wl, ↓reduceIte, Nat.reduceEqDiff, Nat.reduceAdd, Nat.zero_add, not_false_eq_true, not_true_eq_false, t0, t1, t5, t6, t19, t20, t21, h9, IntWalk.i64_in, F0, RdI.index ha' underlying24 asz21 (q := .i64) (i := u.fr) (by omega) (by omega), RdI.at ha' underlying21 rfl (i := u.fr.toNat) (by omega)]
              refine condK_dec (fun hm => ?_) (fun hm => ?_)
              · have hj : joins line i u = true := by unfold joins; simp only [hz3, h9, if_true, if_false, Bool.false_eq_true, not_false_eq_true, decide_true, Bool.true_and, decide_eq_true_eq]; omega
                obtain ⟨tv', m1, m2, m3, e1, e2, e3, L', KK⟩ := UL.mark (r := line.getD i 0) (t := (i : Int) + 1) (Ch.wf K) (Ch.le K) L (by omega)
                simp (disch := omega) only [wk, wt, wl, ↓reduceIte, Nat.reduceEqDiff, Nat.reduceAdd, Nat.zero_add, not_false_eq_true, not_true_eq_false, t0, t1, t5, t6, t19, t20, t21, IntWalk.i64_in, F4, e1, e2, e3, intOf_int]
                have hst : unitsTo line (tabZ tab) i = (pre.map (·.1) ++ [u], (unitsTo line (tabZ tab) i).2) := Prod.ext (by rw [← hus]; simp) rfl
                have hs1 : unitsTo line (tabZ tab) (i + 1) = _ := (congrArg (ustep line (tabZ tab) i (line.getD i 0)) hst).trans (ustep_join (widthZ_zero.1 hz) hj)
                refine ⟨⟨KK h rfl K, i + 1, l, _, by simp, by omega, ?_, rfl, L', ?_⟩, by omega⟩
                · rw [hs1]
                · rw [hs1]; simp
              · have hpu : (unitsTo line (tabZ tab) i).1 = [] ∨ ¬ zeroB (line.getD i 0) = true ∨ ∃ u, (unitsTo line (tabZ tab) i).1.getLast? = some u ∧ joins line i u = false := .inr (.inr ⟨u, hlast, by unfold joins; simp only [hz3, h9, if_true, if_false, Bool.false_eq_true, not_false_eq_true, decide_true, Bool.true_and, decide_eq_false_iff_not]; omega⟩)
                simp only [wk, wt, wl, ↓reduceIte, Nat.reduceEqDiff, Nat.reduceAdd, Nat.zero_add, not_false_eq_true, not_true_eq_false, t0, t1, t5, t6, t19, t20, t21]
                refine (unit_ok (hline i) (G.keeps K) (tabZ_range tab) ⟨UO.col0, by omega⟩ ⟨by omega, by omega⟩).use ?_
                rintro _ h2 ⟨tv2, rfl, K2, O2, fr2⟩
                have L2 := L.keeps K2
                have Kh2 := K.trans K2
                have hsz2 := Ch.le K
                simp (disch := omega) only [wk, wt, wl, ↓reduceIte, Nat.reduceEqDiff, Nat.reduceAdd, Nat.zero_add, not_false_eq_true, not_true_eq_false, t0, t1, t5, t6, t21]
                have K3 := Keeps.new (Ch.wf Kh2) 36 [Value.int IntKind.i64 0, Value.int IntKind.i64 0, Value.int IntKind.i64 0, Value.int IntKind.i64 0, Value.slice none 0 0]
                have V3 := Var.new (e := 36) (Ch.wf Kh2) (cs := [Value.int IntKind.i64 0, Value.int IntKind.i64 0, Value.int IntKind.i64 0, Value.int IntKind.i64 0, Value.slice none 0 0])
                obtain ⟨h4, e4, V4, C4, z4⟩ := V3.store (P := prog) (t := 36) (v := .agg #[.int .i64 i, .int .i64 (i + 1), .int .i64 (unitsTo line (tabZ tab) i).2, .int .i64 (uwidth (line.getD i 0) (unitsTo line (tabZ tab) i).2 (tabZ tab)), tv2]) (i := 0) (Ch.wf K3) asz36 (by simp [Value.cells]) (by simp [Value.cells, one_int, O2.1.one])
                rw [e4]; clear e4
                simp only [Value.cells, over_all (xs := [Value.int IntKind.i64 0, Value.int IntKind.i64 0, Value.int IntKind.i64 0, Value.int IntKind.i64 0, Value.slice none 0 0]) (vs := [.int .i64 i, .int .i64 (i + 1), .int .i64 (unitsTo line (tabZ tab) i).2, .int .i64 (uwidth (line.getD i 0) (unitsTo line (tabZ tab) i).2 (tabZ tab)), tv2]) rfl] at V4
                have K24 : Keeps h2 h4 := K3.step C4 (fun b hb => by omega)
                have Kh4 := Kh2.trans K24
                have L4 := L2.keeps K24
                have O4 := (O2.keeps K24).base hsz2
                have wr := uwidth_range (r := line.getD i 0) (col := (unitsTo line (tabZ tab) i).2) (tabZ_range tab)
                obtain ⟨l5, h5, e5, L5, C5⟩ := UL.push (u := ⟨i, i + 1, (unitsTo line (tabZ tab) i).2, uwidth (line.getD i 0) (unitsTo line (tabZ tab) i).2 (tabZ tab), utext (line.getD i 0) (unitsTo line (tabZ tab) i).2 (tabZ tab)⟩) (Ch.wf Kh4) (Ch.le Kh4) L4 O4 (fun b k bl kl q1 q2 q3 q4 => by
                  have f0 := fr2 b q1
                  have f1 := (O2.1.blk_lt q1).1
                  rw [K24.at f1] at q2
                  have f2 := (K2.2.2.2.1 b k f0 q2).resolve_right fun ⟨_, _, e, _⟩ => e
                  have f3 := (L.own.1.blk_lt q3).1
                  have f4 := (L2.own.1.blk_lt q3).1
                  rw [K24.at f4, K2.at f3] at q4
                  have f5 := (Ch.wf K).2 bl kl q4
                  omega) (by omega)
                simp only [cellsU] at e5
                have vlt := V4.lt (Ch.wf Kh4)
                have V5 := Ch.var (Ch.wf Kh4) C5 V4 (fun hd => by
                  have := (L2.own.1.blk_lt hd.1).1
                  omega)
                simp (disch := omega) only [wk, wt, wl, ↓reduceIte, Nat.reduceEqDiff, Nat.reduceAdd, Nat.zero_add, not_false_eq_true, not_true_eq_false, t0, t1, t5, t6, t19, t20, t21, V4.loadA (P := prog) (t := 36) underlying36 rfl asz36, buildA5 (P := prog) (h := h4) underlying33 asz36 azero36 rfl (v0 := .int .i64 i) (v1 := .int .i64 (i + 1)) (v2 := .int .i64 (unitsTo line (tabZ tab) i).2) (v3 := .int .i64 (uwidth (line.getD i 0) (unitsTo line (tabZ tab) i).2 (tabZ tab))) (v4 := tv2) rfl rfl rfl rfl O2.1.one, e5, V5.load1 (P := prog) (t := 3) underlying3 rfl (i := 3), IntWalk.i64_in, intOf_int]
                have hs1 : unitsTo line (tabZ tab) (i + 1) = _ := ustep_push (us := (unitsTo line (tabZ tab) i).1) (col := (unitsTo line (tabZ tab) i).2) hpu
                refine ⟨⟨Kh4.step C5 (fun b hb => hb.2), i + 1, l5, _, by simp, by omega, ?_, rfl, L5, ?_⟩, by omega⟩
                · rw [hs1]
                · rw [hs1, List.map_append, hus]; rfl
            · have hpu : (unitsTo line (tabZ tab) i).1 = [] ∨ ¬ zeroB (line.getD i 0) = true ∨ ∃ u, (unitsTo line (tabZ tab) i).1.getLast? = some u ∧ joins line i u = false := .inr (.inr ⟨u, hlast, by unfold joins; simp only [Decidable.not_not.1 h9, not_true_eq_false, decide_false, Bool.false_and]⟩)
              simp only [wk, wt, wl, ↓reduceIte, Nat.reduceEqDiff, Nat.reduceAdd, Nat.zero_add, not_false_eq_true, not_true_eq_false, t0, t1, t5, t6, t19, t20, t21, h9]
              refine (unit_ok (hline i) (G.keeps K) (tabZ_range tab) ⟨UO.col0, by omega⟩ ⟨by omega, by omega⟩).use ?_
              rintro _ h2 ⟨tv2, rfl, K2, O2, fr2⟩
              have L2 := L.keeps K2
              have Kh2 := K.trans K2
              have hsz2 := Ch.le K
              simp (disch := omega) only [wk, wt, wl, ↓reduceIte, Nat.reduceEqDiff, Nat.reduceAdd, Nat.zero_add, not_false_eq_true, not_true_eq_false, t0, t1, t5, t6, t21]
              have K3 := Keeps.new (Ch.wf Kh2) 36 [Value.int IntKind.i64 0, Value.int IntKind.i64 0, Value.int IntKind.i64 0, Value.int IntKind.i64 0, Value.slice none 0 0]
              have V3 := Var.new (e := 36) (Ch.wf Kh2) (cs := [Value.int IntKind.i64 0, Value.int IntKind.i64 0, Value.int IntKind.i64 0, Value.int IntKind.i64 0, Value.slice none 0 0])
              obtain ⟨h4, e4, V4, C4, z4⟩ := V3.store (P := prog) (t := 36) (v := .agg #[.int .i64 i, .int .i64 (i + 1), .int .i64 (unitsTo line (tabZ tab) i).2, .int .i64 (uwidth (line.getD i 0) (unitsTo line (tabZ tab) i).2 (tabZ tab)), tv2]) (i := 0) (Ch.wf K3) asz36 (by simp [Value.cells]) (by simp [Value.cells, one_int, O2.1.one])
              rw [e4]; clear e4
              simp only [Value.cells, over_all (xs := [Value.int IntKind.i64 0, Value.int IntKind.i64 0, Value.int IntKind.i64 0, Value.int IntKind.i64 0, Value.slice none 0 0]) (vs := [.int .i64 i, .int .i64 (i + 1), .int .i64 (unitsTo line (tabZ tab) i).2, .int .i64 (uwidth (line.getD i 0) (unitsTo line (tabZ tab) i).2 (tabZ tab)), tv2]) rfl] at V4
              have K24 : Keeps h2 h4 := K3.step C4 (fun b hb => by omega)
              have Kh4 := Kh2.trans K24
              have L4 := L2.keeps K24
              have O4 := (O2.keeps K24).base hsz2
              have wr := uwidth_range (r := line.getD i 0) (col := (unitsTo line (tabZ tab) i).2) (tabZ_range tab)
              obtain ⟨l5, h5, e5, L5, C5⟩ := UL.push (u := ⟨i, i + 1, (unitsTo line (tabZ tab) i).2, uwidth (line.getD i 0) (unitsTo line (tabZ tab) i).2 (tabZ tab), utext (line.getD i 0) (unitsTo line (tabZ tab) i).2 (tabZ tab)⟩) (Ch.wf Kh4) (Ch.le Kh4) L4 O4 (fun b k bl kl q1 q2 q3 q4 => by
                have f0 := fr2 b q1
                have f1 := (O2.1.blk_lt q1).1
                rw [K24.at f1] at q2
                have f2 := (K2.2.2.2.1 b k f0 q2).resolve_right fun ⟨_, _, e, _⟩ => e
                have f3 := (L.own.1.blk_lt q3).1
                have f4 := (L2.own.1.blk_lt q3).1
                rw [K24.at f4, K2.at f3] at q4
                have f5 := (Ch.wf K).2 bl kl q4
                omega) (by omega)
              simp only [cellsU] at e5
              have vlt := V4.lt (Ch.wf Kh4)
              have V5 := Ch.var (Ch.wf Kh4) C5 V4 (fun hd => by
                have := (L2.own.1.blk_lt hd.1).1
                omega)
              simp (disch := omega) only [wk, wt, wl, ↓reduceIte, Nat.reduceEqDiff, Nat.reduceAdd, Nat.zero_add, not_false_eq_true, not_true_eq_false, t0, t1, t5, t6, t19, t20, t21, V4.loadA (P := prog) (t := 36) underlying36 rfl asz36, buildA5 (P := prog) (h := h4) underlying33 asz36 azero36 rfl (v0 := .int .i64 i) (v1 := .int .i64 (i + 1)) (v2 := .int .i64 (unitsTo line (tabZ tab) i).2) (v3 := .int .i64 (uwidth (line.getD i 0) (unitsTo line (tabZ tab) i).2 (tabZ tab))) (v4 := tv2) rfl rfl rfl rfl O2.1.one, e5, V5.load1 (P := prog) (t := 3) underlying3 rfl (i := 3), IntWalk.i64_in, intOf_int]
              have hs1 : unitsTo line (tabZ tab) (i + 1) = _ := ustep_push (us := (unitsTo line (tabZ tab) i).1) (col := (unitsTo line (tabZ tab) i).2) hpu
              refine ⟨⟨Kh4.step C5 (fun b hb => hb.2), i + 1, l5, _, by simp, by omega, ?_, rfl, L5, ?_⟩, by omega⟩
              · rw [hs1]
              · rw [hs1, List.map_append, hus]; rfl
          · have hz3 : zeroB (line.getD u.fr.toNat 0) = false := by
              cases e : zeroB (line.getD u.fr.toNat 0) with
              | false => rfl
              | true => exact absurd (widthZ_zero.2 e) hz2
            simp (disch := omega) only [wk, wt, wl, ↓reduceIte, Nat.reduceEqDiff, Nat.reduceAdd, Nat.zero_add, not_false_eq_true, not_true_eq_false, t0, t1, t5, t6, t19, t20, t21, IntWalk.i64_in, F0, RdI.index ha' underlying24 asz21 (q := .i64) (i := u.fr) (by omega) (by omega), RdI.at ha' underlying21 rfl (i := u.fr.toNat) (by omega)]
            refine gateO_dec (fun h9 => ?_) (fun h9 => ?_)
            · simp (disch := omega) only [wk, wt, wl, ↓reduceIte, Nat.reduceEqDiff, Nat.reduceAdd, Nat.zero_add, not_false_eq_true, not_true_eq_false, t0, t1, t5, t6, t19, t20, t21, h9, IntWalk.i64_in, F0, RdI.index ha' underlying24 asz21 (q := .i64) (i := u.fr) (by omega) (by omega), RdI.at ha' underlying21 rfl (i := u.fr.toNat) (by omega)]
              refine condK_dec (fun hm => ?_) (fun hm => ?_)
              · have hj : joins line i u = true := by unfold joins; simp only [hz3, h9, if_true, if_false, Bool.false_eq_true, not_false_eq_true, decide_true, Bool.true_and, decide_eq_true_eq]; omega
                obtain ⟨tv', m1, m2, m3, e1, e2, e3, L', KK⟩ := UL.mark (r := line.getD i 0) (t := (i : Int) + 1) (Ch.wf K) (Ch.le K) L (by omega)
                simp (disch := omega) only [wk, wt, wl, ↓reduceIte, Nat.reduceEqDiff, Nat.reduceAdd, Nat.zero_add, not_false_eq_true, not_true_eq_false, t0, t1, t5, t6, t19, t20, t21, IntWalk.i64_in, F4, e1, e2, e3, intOf_int]
                have hst : unitsTo line (tabZ tab) i = (pre.map (·.1) ++ [u], (unitsTo line (tabZ tab) i).2) := Prod.ext (by rw [← hus]; simp) rfl
                have hs1 : unitsTo line (tabZ tab) (i + 1) = _ := (congrArg (ustep line (tabZ tab) i (line.getD i 0)) hst).trans (ustep_join (widthZ_zero.1 hz) hj)
                refine ⟨⟨KK h rfl K, i + 1, l, _, by simp, by omega, ?_, rfl, L', ?_⟩, by omega⟩
                · rw [hs1]
                · rw [hs1]; simp
              · have hpu : (unitsTo line (tabZ tab) i).1 = [] ∨ ¬ zeroB (line.getD i 0) = true ∨ ∃ u, (unitsTo line (tabZ tab) i).1.getLast? = some u ∧ joins line i u = false := .inr (.inr ⟨u, hlast, by unfold joins; simp only [hz3, h9, if_true, if_false, Bool.false_eq_true, not_false_eq_true, decide_true, Bool.true_and, decide_eq_false_iff_not]; omega⟩)
                simp only [wk, wt, wl, ↓reduceIte, Nat.reduceEqDiff, Nat.reduceAdd, Nat.zero_add, not_false_eq_true, not_true_eq_false, t0, t1, t5, t6, t19, t20, t21]
                refine (unit_ok (hline i) (G.keeps K) (tabZ_range tab) ⟨UO.col0, by omega⟩ ⟨by omega, by omega⟩).use ?_
                rintro _ h2 ⟨tv2, rfl, K2, O2, fr2⟩
                have L2 := L.keeps K2
                have Kh2 := K.trans K2
                have hsz2 := Ch.le K
                simp (disch := omega) only [wk, wt, wl, ↓reduceIte, Nat.reduceEqDiff, Nat.reduceAdd, Nat.zero_add, not_false_eq_true, not_true_eq_false, t0, t1, t5, t6, t21]
                have K3 := Keeps.new (Ch.wf Kh2) 36 [Value.int IntKind.i64 0, Value.int IntKind.i64 0, Value.int IntKind.i64 0, Value.int IntKind.i64 0, Value.slice none 0 0]
                have V3 := Var.new (e := 36) (Ch.wf Kh2) (cs := [Value.int IntKind.i64 0, Value.int IntKind.i64 0, Value.int IntKind.i64 0, Value.int IntKind.i64 0, Value.slice none 0 0])
                obtain ⟨h4, e4, V4, C4, z4⟩ := V3.store (P := prog) (t := 36) (v := .agg #[.int .i64 i, .int .i64 (i + 1), .int .i64 (unitsTo line (tabZ tab) i).2, .int .i64 (uwidth (line.getD i 0) (unitsTo line (tabZ tab) i).2 (tabZ tab)), tv2]) (i := 0) (Ch.wf K3) asz36 (by simp [Value.cells]) (by simp [Value.cells, one_int, O2.1.one])
                rw [e4]; clear e4
                simp only [Value.cells, over_all (xs := [Value.int IntKind.i64 0, Value.int IntKind.i64 0, Value.int IntKind.i64 0, Value.int IntKind.i64 0, Value.slice none 0 0]) (vs := [.int .i64 i, .int .i64 (i + 1), .int .i64 (unitsTo line (tabZ tab) i).2, .int .i64 (uwidth (line.getD i 0) (unitsTo line (tabZ tab) i).2 (tabZ tab)), tv2]) rfl] at V4
                have K24 : Keeps h2 h4 := K3.step C4 (fun b hb => by omega)
                have Kh4 := Kh2.trans K24
                have L4 := L2.keeps K24
                have O4 := (O2.keeps K24).base hsz2
                have wr := uwidth_range (r := line.getD i 0) (col := (unitsTo line (tabZ tab) i).2) (tabZ_range tab)
                obtain ⟨l5, h5, e5, L5, C5⟩ := UL.push (u := ⟨i, i + 1, (unitsTo line (tabZ tab) i).2, uwidth (line.getD i 0) (unitsTo line (tabZ tab) i).2 (tabZ tab), utext (line.getD i 0) (unitsTo line (tabZ tab) i).2 (tabZ tab)⟩) (Ch.wf Kh4) (Ch.le Kh4) L4 O4 (fun b k bl kl q1 q2 q3 q4 => by
                  have f0 := fr2 b q1
                  have f1 := (O2.1.blk_lt q1).1
                  rw [K24.at f1] at q2
                  have f2 := (K2.2.2.2.1 b k f0 q2).resolve_right fun ⟨_, _, e, _⟩ => e
                  have f3 := (L.own.1.blk_lt q3).1
                  have f4 := (L2.own.1.blk_lt q3).1
                  rw [K24.at f4, K2.at f3] at q4
                  have f5 := (Ch.wf K).2 bl kl q4
                  omega) (by omega)
                simp only [cellsU] at e5
                have vlt := V4.lt (Ch.wf Kh4)
                have V5 := Ch.var (Ch.wf Kh4) C5 V4 (fun hd => by
                  have := (L2.own.1.blk_lt hd.1).1
                  omega)
                simp (disch := omega) only [wk, wt, wl, ↓reduceIte, Nat.reduceEqDiff, Nat.reduceAdd, Nat.zero_add, not_false_eq_true, not_true_eq_false, t0, t1, t5, t6, t19, t20, t21, V4.loadA (P := prog) (t := 36) underlying36 rfl asz36, buildA5 (P := prog) (h := h4) underlying33 asz36 azero36 rfl (v0 := .int .i64 i) (v1 := .int .i64 (i + 1)) (v2 := .int .i64 (unitsTo line (tabZ tab) i).2) (v3 := .int .i64 (uwidth (line.getD i 0) (unitsTo line (tabZ tab) i).2 (tabZ tab))) (v4 := tv2) rfl rfl rfl rfl O2.1.one, e5, V5.load1 (P := prog) (t := 3) underlying3 rfl (i := 3), IntWalk.i64_in, intOf_int]
                have hs1 : unitsTo line (tabZ tab) (i + 1) = _ := ustep_push (us := (unitsTo line (tabZ tab) i).1) (col := (unitsTo line (tabZ tab) i).2) hpu
                refine ⟨⟨Kh4.step C5 (fun b hb => hb.2), i + 1, l5, _, by simp, by omega, ?_, rfl, L5, ?_⟩, by omega⟩
                · rw [hs1]
                · rw [hs1, List.map_append, hus]; rfl
            · have hpu : (unitsTo line (tabZ tab) i).1 = [] ∨ ¬ zeroB (line.getD i 0) = true ∨ ∃ u, (unitsTo line (tabZ tab) i).1.getLast? = some u ∧ joins line i u = false := .inr (.inr ⟨u, hlast, by unfold joins; simp only [Decidable.not_not.1 h9, not_true_eq_false, decide_false, Bool.false_and]⟩)
              simp only [wk, wt, wl, ↓reduceIte, Nat.reduceEqDiff, Nat.reduceAdd, Nat.zero_add, not_false_eq_true, not_true_eq_false, t0, t1, t5, t6, t19, t20, t21, h9]
              refine (unit_ok (hline i) (G.keeps K) (tabZ_range tab) ⟨UO.col0, by omega⟩ ⟨by omega, by omega⟩).use ?_
              rintro _ h2 ⟨tv2, rfl, K2, O2, fr2⟩
              have L2 := L.keeps K2
              have Kh2 := K.trans K2
              have hsz2 := Ch.le K
              simp (disch := omega) only [wk, wt, wl, ↓reduceIte, Nat.reduceEqDiff, Nat.reduceAdd, Nat.zero_add, not_false_eq_true, not_true_eq_false, t0, t1, t5, t6, t21]
              have K3 := Keeps.new (Ch.wf Kh2) 36 [Value.int IntKind.i64 0, Value.int IntKind.i64 0, Value.int IntKind.i64 0, Value.int IntKind.i64 0, Value.slice none 0 0]
              have V3 := Var.new (e := 36) (Ch.wf Kh2) (cs := [Value.int IntKind.i64 0, Value.int IntKind.i64 0, Value.int IntKind.i64 0, Value.int IntKind.i64 0, Value.slice none 0 0])
              obtain ⟨h4, e4, V4, C4, z4⟩ := V3.store (P := prog) (t := 36) (v := .agg #[.int .i64 i, .int .i64 (i + 1), .int .i64 (unitsTo line (tabZ tab) i).2, .int .i64 (uwidth (line.getD i 0) (unitsTo line (tabZ tab) i).2 (tabZ tab)), tv2]) (i := 0) (Ch.wf K3) asz36 (by simp [Value.cells]) (by simp [Value.cells, one_int, O2.1.one])
              rw [e4]; clear e4
              simp only [Value.cells, over_all (xs := [Value.int IntKind.i64 0, Value.int IntKind.i64 0, Value.int IntKind.i64 0, Value.int IntKind.i64 0, Value.slice none 0 0]) (vs := [.int .i64 i, .int .i64 (i + 1), .int .i64 (unitsTo line (tabZ tab) i).2, .int .i64 (uwidth (line.getD i 0) (unitsTo line (tabZ tab) i).2 (tabZ tab)), tv2]) rfl] at V4
              have K24 : Keeps h2 h4 := K3.step C4 (fun b hb => by omega)
              have Kh4 := Kh2.trans K24
              have L4 := L2.keeps K24
              have O4 := (O2.keeps K24).base hsz2
              have wr := uwidth_range (r := line.getD i 0) (col := (unitsTo line (tabZ tab) i).2) (tabZ_range tab)
              obtain ⟨l5, h5, e5, L5, C5⟩ := UL.push (u := ⟨i, i + 1, (unitsTo line (tabZ tab) i).2, uwidth (line.getD i 0) (unitsTo line (tabZ tab) i).2 (tabZ tab), utext (line.getD i 0) (unitsTo line (tabZ tab) i).2 (tabZ tab)⟩) (Ch.wf Kh4) (Ch.le Kh4) L4 O4 (fun b k bl kl q1 q2 q3 q4 => by
                have f0 := fr2 b q1
                have f1 := (O2.1.blk_lt q1).1
                rw [K24.at f1] at q2
                have f2 := (K2.2.2.2.1 b k f0 q2).resolve_right fun ⟨_, _, e, _⟩ => e
                have f3 := (L.own.1.blk_lt q3).1
                have f4 := (L2.own.1.blk_lt q3).1
                rw [K24.at f4, K2.at f3] at q4
                have f5 := (Ch.wf K).2 bl kl q4
                omega) (by omega)
              simp only [cellsU] at e5
              have vlt := V4.lt (Ch.wf Kh4)
              have V5 := Ch.var (Ch.wf Kh4) C5 V4 (fun hd => by
                have := (L2.own.1.blk_lt hd.1).1
                omega)
              simp (disch := omega) only [wk, wt, wl, ↓reduceIte, Nat.reduceEqDiff, Nat.reduceAdd, Nat.zero_add, not_false_eq_true, not_true_eq_false, t0, t1, t5, t6, t19, t20, t21, V4.loadA (P := prog) (t := 36) underlying36 rfl asz36, buildA5 (P := prog) (h := h4) underlying33 asz36 azero36 rfl (v0 := .int .i64 i) (v1 := .int .i64 (i + 1)) (v2 := .int .i64 (unitsTo line (tabZ tab) i).2) (v3 := .int .i64 (uwidth (line.getD i 0) (unitsTo line (tabZ tab) i).2 (tabZ tab))) (v4 := tv2) rfl rfl rfl rfl O2.1.one, e5, V5.load1 (P := prog) (t := 3) underlying3 rfl (i := 3), IntWalk.i64_in, intOf_int]
              have hs1 : unitsTo line (tabZ tab) (i + 1) = _ := ustep_push (us := (unitsTo line (tabZ tab) i).1) (col := (unitsTo line (tabZ tab) i).2) hpu
              refine ⟨⟨Kh4.step C5 (fun b hb => hb.2), i + 1, l5, _, by simp, by omega, ?_, rfl, L5, ?_⟩, by omega⟩
              · rw [hs1]
              · rw [hs1, List.map_append, hus]; rfl
        · have hpu : (unitsTo line (tabZ tab) i).1 = [] ∨ ¬ zeroB (line.getD i 0) = true ∨ ∃ u, (unitsTo line (tabZ tab) i).1.getLast? = some u ∧ joins line i u = false := .inr (.inl fun e => hz (widthZ_zero.2 e))
          simp only [wk, wt, wl, ↓reduceIte, Nat.reduceEqDiff, Nat.reduceAdd, Nat.zero_add, not_false_eq_true, not_true_eq_false, t0, t1, t5, t6, t19, t20, t21, hn]
          refine (unit_ok (hline i) (G.keeps K) (tabZ_range tab) ⟨UO.col0, by omega⟩ ⟨by omega, by omega⟩).use ?_
          rintro _ h2 ⟨tv2, rfl, K2, O2, fr2⟩
          have L2 := L.keeps K2
          have Kh2 := K.trans K2
          have hsz2 := Ch.le K
          simp (disch := omega) only [wk, wt, wl, ↓reduceIte, Nat.reduceEqDiff, Nat.reduceAdd, Nat.zero_add, not_false_eq_true, not_true_eq_false, t0, t1, t5, t6, t21]
          have K3 := Keeps.new (Ch.wf Kh2) 36 [Value.int IntKind.i64 0, Value.int IntKind.i64 0, Value.int IntKind.i64 0, Value.int IntKind.i64 0, Value.slice none 0 0]
          have V3 := Var.new (e := 36) (Ch.wf Kh2) (cs := [Value.int IntKind.i64 0, Value.int IntKind.i64 0, Value.int IntKind.i64 0, Value.int IntKind.i64 0, Value.slice none 0 0])
          obtain ⟨h4, e4, V4, C4, z4⟩ := V3.store (P := prog) (t := 36) (v := .agg #[.int .i64 i, .int .i64 (i + 1), .int .i64 (unitsTo line (tabZ tab) i).2, .int .i64 (uwidth (line.getD i 0) (unitsTo line (tabZ tab) i).2 (tabZ tab)), tv2]) (i := 0) (Ch.wf K3) asz36 (by simp [Value.cells]) (by simp [Value.cells, one_int, O2.1.one])
          rw [e4]; clear e4
          simp only [Value.cells, over_all (xs := [Value.int IntKind.i64 0, Value.int IntKind.i64 0, Value.int IntKind.i64 0, Value.int IntKind.i64 0, Value.slice none 0 0]) (vs := [.int .i64 i, .int .i64 (i + 1), .int .i64 (unitsTo line (tabZ tab) i).2, .int .i64 (uwidth (line.getD i 0) (unitsTo line (tabZ tab) i).2 (tabZ tab)), tv2]) rfl] at V4
          have K24 : Keeps h2 h4 := K3.step C4 (fun b hb => by omega)
          have Kh4 := Kh2.trans K24
          have L4 := L2.keeps K24
          have O4 := (O2.keeps K24).base hsz2
          have wr := uwidth_range (r := line.getD i 0) (col := (unitsTo line (tabZ tab) i).2) (tabZ_range tab)
          obtain ⟨l5, h5, e5, L5, C5⟩ := UL.push (u := ⟨i, i + 1, (unitsTo line (tabZ tab) i).2, uwidth (line.getD i 0) (unitsTo line (tabZ tab) i).2 (tabZ tab), utext (line.getD i 0) (unitsTo line (tabZ tab) i).2 (tabZ tab)⟩) (Ch.wf Kh4) (Ch.le Kh4) L4 O4 (fun b k bl kl q1 q2 q3 q4 => by
            have f0 := fr2 b q1
            have f1 := (O2.1.blk_lt q1).1
            rw [K24.at f1] at q2
            have f2 := (K2.2.2.2.1 b k f0 q2).resolve_right fun ⟨_, _, e, _⟩ => e
            have f3 := (L.own.1.blk_lt q3).1
            have f4 := (L2.own.1.blk_lt q3).1
            rw [K24.at f4, K2.at f3] at q4
            have f5 := (Ch.wf K).2 bl kl q4
            omega) (by omega)
          simp only [cellsU] at e5
          have vlt := V4.lt (Ch.wf Kh4)
          have V5 := Ch.var (Ch.wf Kh4) C5 V4 (fun hd => by
            have := (L2.own.1.blk_lt hd.1).1
            omega)
          simp (disch := omega) only [wk, wt, wl, ↓reduceIte, Nat.reduceEqDiff, Nat.reduceAdd, Nat.zero_add, not_false_eq_true, not_true_eq_false, t0, t1, t5, t6, t19, t20, t21, V4.loadA (P := prog) (t := 36) underlying36 rfl asz36, buildA5 (P := prog) (h := h4) underlying33 asz36 azero36 rfl (v0 := .int .i64 i) (v1 := .int .i64 (i + 1)) (v2 := .int .i64 (unitsTo line (tabZ tab) i).2) (v3 := .int .i64 (uwidth (line.getD i 0) (unitsTo line (tabZ tab) i).2 (tabZ tab))) (v4 := tv2) rfl rfl rfl rfl O2.1.one, e5, V5.load1 (P := prog) (t := 3) underlying3 rfl (i := 3), IntWalk.i64_in, intOf_int]
          have hs1 : unitsTo line (tabZ tab) (i + 1) = _ := ustep_push (us := (unitsTo line (tabZ tab) i).1) (col := (unitsTo line (tabZ tab) i).2) hpu
          refine ⟨⟨Kh4.step C5 (fun b hb => hb.2), i + 1, l5, _, by simp, by omega, ?_, rfl, L5, ?_⟩, by omega⟩
          · rw [hs1]
          · rw [hs1, List.map_append, hus]; rfl
      · have hpu : (unitsTo line (tabZ tab) i).1 = [] ∨ ¬ zeroB (line.getD i 0) = true ∨ ∃ u, (unitsTo line (tabZ tab) i).1.getLast? = some u ∧ joins line i u = false := .inl (List.eq_nil_of_length_eq_zero (by omega))
        simp only [wk, wt, wl, ↓reduceIte, Nat.reduceEqDiff, Nat.reduceAdd, Nat.zero_add, not_false_eq_true, not_true_eq_false, t0, t1, t5, t6, t19, t20, t21, hn]
        refine (unit_ok (hline i) (G.keeps K) (tabZ_range tab) ⟨UO.col0, by omega⟩ ⟨by omega, by omega⟩).use ?_
        rintro _ h2 ⟨tv2, rfl, K2, O2, fr2⟩
        have L2 := L.keeps K2
        have Kh2 := K.trans K2
        have hsz2 := Ch.le K
        simp (disch := omega) only [wk, wt, wl, ↓reduceIte, Nat.reduceEqDiff, Nat.reduceAdd, Nat.zero_add, not_false_eq_true, not_true_eq_false, t0, t1, t5, t6, t21]
        have K3 := Keeps.new (Ch.wf Kh2) 36 [Value.int IntKind.i64 0, Value.int IntKind.i64 0, Value.int IntKind.i64 0, Value.int IntKind.i64 0, Value.slice none 0 0]
        have V3 := Var.new (e := 36) (Ch.wf Kh2) (cs := [Value.int IntKind.i64 0, Value.int IntKind.i64 0, Value.int IntKind.i64 0, Value.int IntKind.i64 0, Value.slice none 0 0])
        obtain ⟨h4, e4, V4, C4, z4⟩ := V3.store (P := prog) (t := 36) (v := .agg #[.int .i64 i, .int .i64 (i + 1), .int .i64 (unitsTo line (tabZ tab) i).2, .int .i64 (uwidth (line.getD i 0) (unitsTo line (tabZ tab) i).2 (tabZ tab)), tv2]) (i := 0) (Ch.wf K3) asz36 (by simp [Value.cells]) (by simp [Value.cells, one_int, O2.1.one])
        rw [e4]; clear e4
        simp only [Value.cells, over_all (xs := [Value.int IntKind.i64 0, Value.int IntKind.i64 0, Value.int IntKind.i64 0, Value.int IntKind.i64 0, Value.slice none 0 0]) (vs := [.int .i64 i, .int .i64 (i + 1), .int .i64 (unitsTo line (tabZ tab) i).2, .int .i64 (uwidth (line.getD i 0) (unitsTo line (tabZ tab) i).2 (tabZ tab)), tv2]) rfl] at V4
        have K24 : Keeps h2 h4 := K3.step C4 (fun b hb => by omega)
        have Kh4 := Kh2.trans K24
        have L4 := L2.keeps K24
        have O4 := (O2.keeps K24).base hsz2
        have wr := uwidth_range (r := line.getD i 0) (col := (unitsTo line (tabZ tab) i).2) (tabZ_range tab)
        obtain ⟨l5, h5, e5, L5, C5⟩ := UL.push (u := ⟨i, i + 1, (unitsTo line (tabZ tab) i).2, uwidth (line.getD i 0) (unitsTo line (tabZ tab) i).2 (tabZ tab), utext (line.getD i 0) (unitsTo line (tabZ tab) i).2 (tabZ tab)⟩) (Ch.wf Kh4) (Ch.le Kh4) L4 O4 (fun b k bl kl q1 q2 q3 q4 => by
          have f0 := fr2 b q1
          have f1 := (O2.1.blk_lt q1).1
          rw [K24.at f1] at q2
          have f2 := (K2.2.2.2.1 b k f0 q2).resolve_right fun ⟨_, _, e, _⟩ => e
          have f3 := (L.own.1.blk_lt q3).1
          have f4 := (L2.own.1.blk_lt q3).1
          rw [K24.at f4, K2.at f3] at q4
          have f5 := (Ch.wf K).2 bl kl q4
          omega) (by omega)
        simp only [cellsU] at e5
        have vlt := V4.lt (Ch.wf Kh4)
        have V5 := Ch.var (Ch.wf Kh4) C5 V4 (fun hd => by
          have := (L2.own.1.blk_lt hd.1).1
          omega)
        simp (disch := omega) only [wk, wt, wl, ↓reduceIte, Nat.reduceEqDiff, Nat.reduceAdd, Nat.zero_add, not_false_eq_true, not_true_eq_false, t0, t1, t5, t6, t19, t20, t21, V4.loadA (P := prog) (t := 36) underlying36 rfl asz36, buildA5 (P := prog) (h := h4) underlying33 asz36 azero36 rfl (v0 := .int .i64 i) (v1 := .int .i64 (i + 1)) (v2 := .int .i64 (unitsTo line (tabZ tab) i).2) (v3 := .int .i64 (uwidth (line.getD i 0) (unitsTo line (tabZ tab) i).2 (tabZ tab))) (v4 := tv2) rfl rfl rfl rfl O2.1.one, e5, V5.load1 (P := prog) (t := 3) underlying3 rfl (i := 3), IntWalk.i64_in, intOf_int]
        have hs1 : unitsTo line (tabZ tab) (i + 1) = _ := ustep_push (us := (unitsTo line (tabZ tab) i).1) (col := (unitsTo line (tabZ tab) i).2) hpu
        refine ⟨⟨Kh4.step C5 (fun b hb => hb.2), i + 1, l5, _, by simp, by omega, ?_, rfl, L5, ?_⟩, by omega⟩
        · rw [hs1]
        · rw [hs1, List.map_append, hus]; rfl
    · simp only [wk, wt, wl, ↓reduceIte, Nat.reduceEqDiff, Nat.reduceAdd, Nat.zero_add, not_false_eq_true, not_true_eq_false, t0, t1, t5, t6, t19, t20, t21]
      have hil : i = line.length := by omega
      exact ⟨uv, by rw [hus, hil]; rfl, L.ur, K⟩
end Go.Proofs.YtcnjmmffipjadaaDoor.Am
