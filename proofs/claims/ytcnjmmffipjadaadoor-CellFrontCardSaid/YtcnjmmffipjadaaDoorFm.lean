/- The document's units of any line: the contract of its Units, by a walk. -/
import Derived.Test.YtcnjmmffipjadaaDoorFk
set_option linter.unusedSimpArgs false
set_option linter.unusedVariables false
set_option maxHeartbeats 4000000
set_option maxRecDepth 20000
namespace Go.Proofs.YtcnjmmffipjadaaDoor.Am
open Go Go.RowKit Go.Proofs.Tryd
theorem build_unit5 {h : Heap} {x y z w : Int} {a : Option Addr} {n c : Nat} : abuild prog 36 #[(0, .int .i64 x), (1, .int .i64 y), (2, .int .i64 z), (3, .int .i64 w), (4, .slice a n c)] = some (.agg #[.int .i64 x, .int .i64 y, .int .i64 z, .int .i64 w, .slice a n c]) := by
  simp [abuild, wt, aplaces, Instr.fill, Value.cells]
theorem refUnits_ok {a : Value} {line : List Int} {tab : Int} {h : Heap} (ha : RdI prog h .i32 a line) (hline : ∀ j, isR (line.getD j 0)) (hlen : line.length ≤ 10000) :
    ACalls prog 22 #[a, .int .i64 tab] h (fun v h' => ∃ uv, uv.map (·.1) = unitsL line tab ∧ UR h' v uv ∧ Keeps h h') := by
  refine acalls_of_W' func22 rfl (by kernel_rfl) (by kernel_rfl) (by simp [ntmps22]) ?_
  intro H
  simp only [wk, wt, wl, ↓reduceIte, Nat.reduceEqDiff, Nat.reduceAdd, Nat.zero_add, not_false_eq_true, not_true_eq_false]
  refine tab_ok.use_pure ?_
  simp only [wk, wt, wl, ↓reduceIte, Nat.reduceEqDiff, Nat.reduceAdd, Nat.zero_add, not_false_eq_true, not_true_eq_false]
  refine W_loop (fun tm h' => Keeps h h' ∧ tm 0 = a ∧ tm 1 = .int .i64 (tabZ tab) ∧ ∃ (i : Nat) (l : Value) (uv : List (U × Value)), tm 7 = .int .i64 i ∧ i ≤ line.length ∧
    tm 6 = .int .i64 (unitsTo line (tabZ tab) i).2 ∧ tm 5 = l ∧ UL h.size h' l uv ∧ uv.map (·.1) = (unitsTo line (tabZ tab) i).1) (fun tm _ => (line.length - intOf (tm 7)).toNat)
    ⟨Keeps.refl H, (by first | rfl | (simp only [wk, wt, wl, ↓reduceIte, Nat.reduceEqDiff, Nat.reduceAdd, Nat.zero_add, not_false_eq_true, not_true_eq_false]; done) | (simp only [wk, wt, wl, ↓reduceIte, Nat.reduceEqDiff, Nat.reduceAdd, Nat.zero_add, not_false_eq_true, not_true_eq_false]; rfl)), (by first | rfl | (simp only [wk, wt, wl, ↓reduceIte, Nat.reduceEqDiff, Nat.reduceAdd, Nat.zero_add, not_false_eq_true, not_true_eq_false]; done) | (simp only [wk, wt, wl, ↓reduceIte, Nat.reduceEqDiff, Nat.reduceAdd, Nat.zero_add, not_false_eq_true, not_true_eq_false]; rfl)), 0, .slice none 0 0, [], (by first | rfl | (simp only [wk, wt, wl, ↓reduceIte, Nat.reduceEqDiff, Nat.reduceAdd, Nat.zero_add, not_false_eq_true, not_true_eq_false]; done) | (simp only [wk, wt, wl, ↓reduceIte, Nat.reduceEqDiff, Nat.reduceAdd, Nat.zero_add, not_false_eq_true, not_true_eq_false]; rfl)), by omega, (by first | rfl | (simp only [wk, wt, wl, ↓reduceIte, Nat.reduceEqDiff, Nat.reduceAdd, Nat.zero_add, not_false_eq_true, not_true_eq_false]; done) | (simp only [wk, wt, wl, ↓reduceIte, Nat.reduceEqDiff, Nat.reduceAdd, Nat.zero_add, not_false_eq_true, not_true_eq_false]; rfl)), (by first | rfl | (simp only [wk, wt, wl, ↓reduceIte, Nat.reduceEqDiff, Nat.reduceAdd, Nat.zero_add, not_false_eq_true, not_true_eq_false]; done) | (simp only [wk, wt, wl, ↓reduceIte, Nat.reduceEqDiff, Nat.reduceAdd, Nat.zero_add, not_false_eq_true, not_true_eq_false]; rfl)), UL.nil, rfl⟩ ?_
  rintro tm h' ⟨K, t0, t1, i, l, uv, t7, hi, t6, t5, L, hus⟩
  have UO := unitsTo_ok (line := line) (tabZ_range tab) i
  have ha' := ha.keeps K
  have hlen' : uv.length = (unitsTo line (tabZ tab) i).1.length := by rw [← hus]; simp
  have hul := UO.len
  have hc0 := UO.col0
  have hc1 := UO.col1
  have wr := uwidth_range (r := line.getD i 0) (col := (unitsTo line (tabZ tab) i).2) (tabZ_range tab)
  simp only [wk, wt, wl, ↓reduceIte, Nat.reduceEqDiff, Nat.reduceAdd, Nat.zero_add, not_false_eq_true, not_true_eq_false, t0, t1, t7, RdI.len ha' underlying24]
  refine condK_dec (fun hd => ?_) (fun hd => ?_)
  · simp only [wk, wt, wl, ↓reduceIte, Nat.reduceEqDiff, Nat.reduceAdd, Nat.zero_add, not_false_eq_true, not_true_eq_false, t0, t1, t5, t6, t7, RdI.index ha' underlying24 asz21 (q := .i64) (i := i) (by omega) (by omega), RdI.at ha' underlying21 rfl (i := i) (by omega)]
    refine zero_ok.use_pure ?_
    simp only [wk, wt, wl, ↓reduceIte, Nat.reduceEqDiff, Nat.reduceAdd, Nat.zero_add, not_false_eq_true, not_true_eq_false, t0, t1, t5, t6, t7]
    refine gateO_boolT (fun hz => ?_) (fun hz => ?_)
    · simp only [wk, wt, wl, ↓reduceIte, Nat.reduceEqDiff, Nat.reduceAdd, Nat.zero_add, not_false_eq_true, not_true_eq_false, t0, t1, t5, t6, t7, hz, Rd.len L.own.1 underlying33]
      refine condK_dec (fun hn => ?_) (fun hn => ?_)
      · have hne : uv ≠ [] := by intro e; subst e; simp at hn
        obtain ⟨pre, ⟨u, tv⟩, rfl⟩ : ∃ pre x, uv = pre ++ [x] := ⟨uv.dropLast, uv.getLast hne, (List.dropLast_concat_getLast hne).symm⟩
        have hlast : (unitsTo line (tabZ tab) i).1.getLast? = some u := by rw [← hus]; simp
        have hu := UO.each u (List.mem_of_getLast? hlast)
        have hto := (UO.last u hlast).1
        obtain ⟨F0, F1, F2, F3, F4⟩ := (UL.ur L).field (i := pre.length) (u := u) (tv := tv) (by simp)
        have hll : ((pre ++ [(u, tv)]).length : Int) = (pre.length : Int) + 1 := by simp
        have hidx : ((pre.length : Int) + 1 - 1).toNat = pre.length := by omega
        have hp : pre.length + 1 = (unitsTo line (tabZ tab) i).1.length := by rw [← hlen']; simp
        have IX : aindexAddr prog 33 l (.int .i64 ((pre.length : Int) + 1 - 1)) = some (.pointer (some (eltA l 5 pre.length))) := by
          have := Rd.index L.own.1 underlying33 asz36 (q := .i64) (i := (pre.length : Int) + 1 - 1) (by omega) (by simp only [List.length_append, List.length_singleton]; omega)
          rw [hidx] at this; exact this
        rw [hto] at F1
        simp (disch := omega) only [wk, wt, wl, ↓reduceIte, Nat.reduceEqDiff, Nat.reduceAdd, Nat.zero_add, not_false_eq_true, not_true_eq_false, t0, t1, t5, t6, t7, hll, Rd.len L.own.1 underlying33, IntWalk.i64_in]
        refine adraw_order [(0, false), (1, false), (2, false), (3, false), (4, false), (5, false), (6, false), (7, false), (8, false), (9, false), (10, false), (11, false)] mixed (by kernel_rfl) (by kernel_rfl) (by kernel_rfl) (by repeat (first | exact PF_retK | refine PF_thenK ?_ | refine PF_blockK ?_)) ?_
        simp (disch := omega) only [wk, wt, wl, ↓reduceIte, Nat.reduceEqDiff, Nat.reduceAdd, Nat.zero_add, not_false_eq_true, not_true_eq_false, t0, t1, t5, t6, t7, IX, F0, F1, IntWalk.i64_in, RdI.index ha' underlying24 asz21 (q := .i64) (i := u.fr) (by omega) (by omega), RdI.at ha' underlying21 rfl (i := u.fr.toNat) (by omega)]
        refine zero_ok.use_pure ?_
        simp (disch := omega) only [wk, wt, wl, ↓reduceIte, Nat.reduceEqDiff, Nat.reduceAdd, Nat.zero_add, not_false_eq_true, not_true_eq_false, t0, t1, t5, t6, t7]
        refine condK_split (fun hz3 => ?_) (fun hz3 => ?_)
        · skip
          simp (disch := omega) only [wk, wt, wl, ↓reduceIte, Nat.reduceEqDiff, Nat.reduceAdd, Nat.zero_add, not_false_eq_true, not_true_eq_false, t0, t1, t5, t6, t7, IX, F0, IntWalk.i64_in, RdI.index ha' underlying24 asz21 (q := .i64) (i := u.fr) (by omega) (by omega), RdI.at ha' underlying21 rfl (i := u.fr.toNat) (by omega)]
          refine gateO_dec (fun h9 => ?_) (fun h9 => ?_)
          · simp (disch := omega) only [wk, wt, wl, ↓reduceIte, Nat.reduceEqDiff, Nat.reduceAdd, Nat.zero_add, not_false_eq_true, not_true_eq_false, t0, t1, t5, t6, t7, h9, IX, F0, IntWalk.i64_in, RdI.index ha' underlying24 asz21 (q := .i64) (i := u.fr) (by omega) (by omega), RdI.at ha' underlying21 rfl (i := u.fr.toNat) (by omega)]
            refine condK_dec (fun hm => ?_) (fun hm => ?_)
            · have hj : joins line i u = true := by unfold joins; simp only [hz3, h9, if_true, if_false, Bool.false_eq_true, not_false_eq_true, decide_true, Bool.true_and, decide_eq_true_eq]; omega
              obtain ⟨h2, e2, L2, KK2⟩ := UL.setTo (t := (i : Int) + 1) (Ch.wf K) L
              have K2 := KK2 h rfl K
              obtain ⟨tv', h3, h4, e3, e4, L4, KK4⟩ := UL.addText (r := line.getD i 0) (Ch.wf K2) (Ch.le K2) L2 (by simp only; omega)
              have F4' := ((UL.ur L2).field (i := pre.length) (u := { u with to := (i : Int) + 1 }) (tv := tv) (by simp)).2.2.2.2
              simp (disch := omega) only [wk, wt, wl, ↓reduceIte, Nat.reduceEqDiff, Nat.reduceAdd, Nat.zero_add, not_false_eq_true, not_true_eq_false, t0, t1, t5, t6, t7, IX, IntWalk.i64_in]
              rw [e2]
              simp (disch := omega) only [wk, wt, wl, ↓reduceIte, Nat.reduceEqDiff, Nat.reduceAdd, Nat.zero_add, not_false_eq_true, not_true_eq_false, t0, t1, t5, t6, t7, IX, IntWalk.i64_in, F4', e3, e4, intOf_int]
              have hst : unitsTo line (tabZ tab) i = (pre.map (·.1) ++ [u], (unitsTo line (tabZ tab) i).2) := Prod.ext (by rw [← hus]; simp) rfl
              have hs1 : unitsTo line (tabZ tab) (i + 1) = _ := (congrArg (ustep line (tabZ tab) i (line.getD i 0)) hst).trans (ustep_join hz hj)
              refine ⟨⟨KK4 h rfl K2, i + 1, l, _, by simp, by omega, ?_, rfl, L4, ?_⟩, by omega⟩
              · rw [hs1]
              · rw [hs1]; simp
            · have hpu : (unitsTo line (tabZ tab) i).1 = [] ∨ ¬ zeroB (line.getD i 0) = true ∨ ∃ u, (unitsTo line (tabZ tab) i).1.getLast? = some u ∧ joins line i u = false := .inr (.inr ⟨u, hlast, by unfold joins; simp only [hz3, h9, if_true, if_false, Bool.false_eq_true, not_false_eq_true, decide_true, Bool.true_and, decide_eq_false_iff_not]; omega⟩)
              simp (disch := omega) only [wk, wt, wl, ↓reduceIte, Nat.reduceEqDiff, Nat.reduceAdd, Nat.zero_add, not_false_eq_true, not_true_eq_false, t0, t1, t5, t6, t7, IntWalk.i64_in]
              refine refWidth_ok.use_pure ?_
              simp (disch := omega) only [wk, wt, wl, ↓reduceIte, Nat.reduceEqDiff, Nat.reduceAdd, Nat.zero_add, not_false_eq_true, not_true_eq_false, t0, t1, t5, t6, t7]
              refine (refShow_ok (hline i)).use_pure ?_
              have KS := Keeps.new (Ch.wf K) 21 ((showL (line.getD i 0)).map (Value.int .i32))
              have OS : Own prog h'.size (h'.new 21 ((showL (line.getD i 0)).map (Value.int .i32))) 1 (.slice (some ⟨h'.size, 0, none⟩) (showL (line.getD i 0)).length ((showL (line.getD i 0)).length + 1)) (showL (line.getD i 0)).length (vI (showL (line.getD i 0))) := Own.new (Ch.wf K) (e := 21) (Nat.le_refl _) asz21 (by simp [vI])
              simp (disch := omega) only [wk, wt, wl, ↓reduceIte, Nat.reduceEqDiff, Nat.reduceAdd, Nat.zero_add, not_false_eq_true, not_true_eq_false, t0, t1, t5, t6, t7, build_unit5 (h := h')]
              have fS : ∀ b, blkOf (.slice (some ⟨h'.size, 0, none⟩) (showL (line.getD i 0)).length ((showL (line.getD i 0)).length + 1)) = some b → b = h'.size := fun b hb => by simp only [blkOf, Option.some.injEq] at hb; exact hb.symm
              generalize hsv : Value.slice (some ⟨h'.size, 0, none⟩) (showL (line.getD i 0)).length ((showL (line.getD i 0)).length + 1) = sv at *
              have zS : (h'.new 21 ((showL (line.getD i 0)).map (Value.int .i32))).size = h'.size + 1 := rfl
              generalize h'.new 21 ((showL (line.getD i 0)).map (Value.int .i32)) = hS at *
              have K3 := Keeps.new (Ch.wf KS) 36 [Value.int IntKind.i64 0, Value.int IntKind.i64 0, Value.int IntKind.i64 0, Value.int IntKind.i64 0, Value.slice none 0 0]
              have V3 := Var.new (e := 36) (Ch.wf KS) (cs := [Value.int IntKind.i64 0, Value.int IntKind.i64 0, Value.int IntKind.i64 0, Value.int IntKind.i64 0, Value.slice none 0 0])
              obtain ⟨hh, e4, VV, C4, z4⟩ := V3.store (P := prog) (t := 36) (v := .agg #[.int .i64 i, .int .i64 (i + 1), .int .i64 (unitsTo line (tabZ tab) i).2, .int .i64 (widthZ (line.getD i 0)), sv]) (i := 0) (Ch.wf K3) asz36 (by simp [Value.cells]) (by simp [Value.cells, one_int, OS.1.one])
              rw [e4]; clear e4
              simp only [Value.cells, over_all (xs := [Value.int IntKind.i64 0, Value.int IntKind.i64 0, Value.int IntKind.i64 0, Value.int IntKind.i64 0, Value.slice none 0 0]) (vs := [.int .i64 i, .int .i64 (i + 1), .int .i64 (unitsTo line (tabZ tab) i).2, .int .i64 (widthZ (line.getD i 0)), sv]) rfl] at VV
              have KK : Keeps h' hh := (KS.trans K3).step C4 (fun b hb => by omega)
              have OO := Ch.own C4 (OS.keeps K3) (fun b hb e => by have := fS b hb; omega)
              have FF : ∀ b, blkOf sv = some b → h'.size ≤ b := fun b hb => by have := fS b hb; omega
              have hbb : h'.size < hS.size := by omega
              have nb : blkOf sv ≠ some hS.size := fun e => by have := fS _ e; omega
              clear C4 K3 V3 KS z4
              have h9 : ¬ line.getD i 0 = 9 := by intro e; rw [e] at hz; exact absurd hz (by decide)
              have hwz : widthZ (line.getD i 0) = 0 := widthZ_zero.2 hz
              simp (disch := omega) only [wk, wt, wl, ↓reduceIte, Nat.reduceEqDiff, Nat.reduceAdd, Nat.zero_add, not_false_eq_true, not_true_eq_false, t0, t1, t5, t6, t7]
              refine zero_ok.use_pure ?_
              simp (disch := omega) only [wk, wt, wl, ↓reduceIte, Nat.reduceEqDiff, Nat.reduceAdd, Nat.zero_add, not_false_eq_true, not_true_eq_false, t0, t1, t5, t6, t7, hz]
              obtain ⟨h2, e2, VV2, C2, z2⟩ := VV.store1 (P := prog) (t := 3) (v := .int .i64 1) (i := 3) (Ch.wf KK) asz3 (by simp) rfl
              rw [e2]; clear e2
              simp only [List.set_cons_succ, List.set_cons_zero] at VV2
              have KK2 : Keeps h' h2 := KK.step C2 (fun b hb => by omega)
              simp (disch := omega) only [wk, wt, wl, ↓reduceIte, Nat.reduceEqDiff, Nat.reduceAdd, Nat.zero_add, not_false_eq_true, not_true_eq_false, t0, t1, t5, t6, t7]
              have KN := Keeps.new (Ch.wf KK2) 21 (vI [32, line.getD i 0])
              have VV3 := Keeps.var (Ch.wf KK2) KN VV2
              have hlt := VV2.lt (Ch.wf KK2)
              have ON : Own prog h'.size (h2.new 21 (vI [32, line.getD i 0])) 1 (.slice (some ⟨h2.size, 0, none⟩) 2 3) 2 (vI [32, line.getD i 0]) := Own.new (Ch.wf KK2) (e := 21) (Ch.le KK2) asz21 rfl
              obtain ⟨h3, e3, VV4, C3, z3⟩ := VV3.store1 (P := prog) (t := 24) (v := .slice (some ⟨h2.size, 0, none⟩) 2 3) (i := 4) (Ch.wf KN) asz24 (by simp) rfl
              simp only [vI, List.map_cons, List.map_nil] at e3
              rw [e3]; clear e3
              simp only [List.set_cons_succ, List.set_cons_zero] at VV4
              have KK3 : Keeps h' h3 := (KK2.trans KN).step C3 (fun b hb => by omega)
              have OO3 := Ch.own C3 ON (fun b hb e => by simp only [blkOf, Option.some.injEq] at hb; omega)
              have hu : utext (line.getD i 0) (unitsTo line (tabZ tab) i).2 (tabZ tab) = [32, line.getD i 0] := by simp only [utext, h9, hwz, if_false, if_true]
              have hu2 : uwidth (line.getD i 0) (unitsTo line (tabZ tab) i).2 (tabZ tab) = 1 := by simp only [uwidth, h9, hwz, if_false, if_true]
              have OO4 : Own prog h'.size h3 1 (.slice (some ⟨h2.size, 0, none⟩) 2 3) (utext (line.getD i 0) (unitsTo line (tabZ tab) i).2 (tabZ tab)).length (vI (utext (line.getD i 0) (unitsTo line (tabZ tab) i).2 (tabZ tab))) := by rw [hu]; exact OO3
              have FF4 : ∀ b, blkOf (.slice (some ⟨h2.size, 0, none⟩) 2 3) = some b → h'.size ≤ b := fun b hb => by simp only [blkOf, Option.some.injEq] at hb; have := Ch.le KK2; omega
              generalize Value.slice (some ⟨h2.size, 0, none⟩) 2 3 = tv2 at *
              clear KK OO FF VV VV2 VV3 ON OO3 KK2 KN C2 C3
              have KK := KK3
              have OO := OO4
              have FF := FF4
              have VV : Var h3 hS.size [.int .i64 i, .int .i64 (i + 1), .int .i64 (unitsTo line (tabZ tab) i).2, .int .i64 (uwidth (line.getD i 0) (unitsTo line (tabZ tab) i).2 (tabZ tab)), tv2] := by rw [hu2]; exact VV4
              simp (disch := omega) only [wk, wt, wl, ↓reduceIte, Nat.reduceEqDiff, Nat.reduceAdd, Nat.zero_add, not_false_eq_true, not_true_eq_false, t0, t1, t5, t6, t7, h9]
              have Kh4 := K.trans KK
              have hsz2 := Ch.le K
              have L4 := L.keeps KK
              have O4 := OO.base hsz2
              obtain ⟨l5, h5, e5, L5, C5⟩ := UL.push (u := ⟨i, i + 1, (unitsTo line (tabZ tab) i).2, uwidth (line.getD i 0) (unitsTo line (tabZ tab) i).2 (tabZ tab), utext (line.getD i 0) (unitsTo line (tabZ tab) i).2 (tabZ tab)⟩) (Ch.wf Kh4) (Ch.le Kh4) L4 O4 (fun b k bl kl q1 q2 q3 q4 => by
                have f0 := FF b q1
                have f2 := (KK.2.2.2.1 b k f0 q2).resolve_right fun ⟨_, _, e, _⟩ => e
                have f3 := (L.own.1.blk_lt q3).1
                rw [KK.at f3] at q4
                have f5 := (Ch.wf K).2 bl kl q4
                omega) (by omega)
              simp only [cellsU] at e5
              have V5 := Ch.var (Ch.wf Kh4) C5 VV (fun hd => by
                have := (L.own.1.blk_lt hd.1).1
                omega)
              have V5' := V5.load1 (P := prog) (t := 3) underlying3 rfl (i := 3)
              simp only [List.getElem?_cons_succ, List.getElem?_cons_zero] at V5'
              simp (disch := omega) only [wk, wt, wl, ↓reduceIte, Nat.reduceEqDiff, Nat.reduceAdd, Nat.zero_add, not_false_eq_true, not_true_eq_false, t0, t1, t5, t6, t7, t11, VV.loadA (P := prog) (t := 36) underlying36 rfl asz36, buildA5 (P := prog) (h := _) underlying33 asz36 azero36 rfl (v0 := .int .i64 i) (v1 := .int .i64 (i + 1)) (v2 := .int .i64 (unitsTo line (tabZ tab) i).2) (v3 := .int .i64 (uwidth (line.getD i 0) (unitsTo line (tabZ tab) i).2 (tabZ tab))) (v4 := tv2) rfl rfl rfl rfl OO.1.one, e5, V5', IntWalk.i64_in, intOf_int]
              have hs1 : unitsTo line (tabZ tab) (i + 1) = _ := ustep_push (us := (unitsTo line (tabZ tab) i).1) (col := (unitsTo line (tabZ tab) i).2) hpu
              refine ⟨⟨Kh4.step C5 (fun b hb => hb.2), i + 1, l5, _, by simp, by omega, ?_, rfl, L5, ?_⟩, by omega⟩
              · rw [hs1]
              · rw [hs1, List.map_append, hus]; rfl
          · have hpu : (unitsTo line (tabZ tab) i).1 = [] ∨ ¬ zeroB (line.getD i 0) = true ∨ ∃ u, (unitsTo line (tabZ tab) i).1.getLast? = some u ∧ joins line i u = false := .inr (.inr ⟨u, hlast, by unfold joins; simp only [Decidable.not_not.1 h9, not_true_eq_false, decide_false, Bool.false_and]⟩)
            simp (disch := omega) only [wk, wt, wl, ↓reduceIte, Nat.reduceEqDiff, Nat.reduceAdd, Nat.zero_add, not_false_eq_true, not_true_eq_false, t0, t1, t5, t6, t7, h9, IntWalk.i64_in]
            refine refWidth_ok.use_pure ?_
            simp (disch := omega) only [wk, wt, wl, ↓reduceIte, Nat.reduceEqDiff, Nat.reduceAdd, Nat.zero_add, not_false_eq_true, not_true_eq_false, t0, t1, t5, t6, t7]
            refine (refShow_ok (hline i)).use_pure ?_
            have KS := Keeps.new (Ch.wf K) 21 ((showL (line.getD i 0)).map (Value.int .i32))
            have OS : Own prog h'.size (h'.new 21 ((showL (line.getD i 0)).map (Value.int .i32))) 1 (.slice (some ⟨h'.size, 0, none⟩) (showL (line.getD i 0)).length ((showL (line.getD i 0)).length + 1)) (showL (line.getD i 0)).length (vI (showL (line.getD i 0))) := Own.new (Ch.wf K) (e := 21) (Nat.le_refl _) asz21 (by simp [vI])
            simp (disch := omega) only [wk, wt, wl, ↓reduceIte, Nat.reduceEqDiff, Nat.reduceAdd, Nat.zero_add, not_false_eq_true, not_true_eq_false, t0, t1, t5, t6, t7, build_unit5 (h := h')]
            have fS : ∀ b, blkOf (.slice (some ⟨h'.size, 0, none⟩) (showL (line.getD i 0)).length ((showL (line.getD i 0)).length + 1)) = some b → b = h'.size := fun b hb => by simp only [blkOf, Option.some.injEq] at hb; exact hb.symm
            generalize hsv : Value.slice (some ⟨h'.size, 0, none⟩) (showL (line.getD i 0)).length ((showL (line.getD i 0)).length + 1) = sv at *
            have zS : (h'.new 21 ((showL (line.getD i 0)).map (Value.int .i32))).size = h'.size + 1 := rfl
            generalize h'.new 21 ((showL (line.getD i 0)).map (Value.int .i32)) = hS at *
            have K3 := Keeps.new (Ch.wf KS) 36 [Value.int IntKind.i64 0, Value.int IntKind.i64 0, Value.int IntKind.i64 0, Value.int IntKind.i64 0, Value.slice none 0 0]
            have V3 := Var.new (e := 36) (Ch.wf KS) (cs := [Value.int IntKind.i64 0, Value.int IntKind.i64 0, Value.int IntKind.i64 0, Value.int IntKind.i64 0, Value.slice none 0 0])
            obtain ⟨hh, e4, VV, C4, z4⟩ := V3.store (P := prog) (t := 36) (v := .agg #[.int .i64 i, .int .i64 (i + 1), .int .i64 (unitsTo line (tabZ tab) i).2, .int .i64 (widthZ (line.getD i 0)), sv]) (i := 0) (Ch.wf K3) asz36 (by simp [Value.cells]) (by simp [Value.cells, one_int, OS.1.one])
            rw [e4]; clear e4
            simp only [Value.cells, over_all (xs := [Value.int IntKind.i64 0, Value.int IntKind.i64 0, Value.int IntKind.i64 0, Value.int IntKind.i64 0, Value.slice none 0 0]) (vs := [.int .i64 i, .int .i64 (i + 1), .int .i64 (unitsTo line (tabZ tab) i).2, .int .i64 (widthZ (line.getD i 0)), sv]) rfl] at VV
            have KK : Keeps h' hh := (KS.trans K3).step C4 (fun b hb => by omega)
            have OO := Ch.own C4 (OS.keeps K3) (fun b hb e => by have := fS b hb; omega)
            have FF : ∀ b, blkOf sv = some b → h'.size ≤ b := fun b hb => by have := fS b hb; omega
            have hbb : h'.size < hS.size := by omega
            have nb : blkOf sv ≠ some hS.size := fun e => by have := fS _ e; omega
            clear C4 K3 V3 KS z4
            have h9 : ¬ line.getD i 0 = 9 := by intro e; rw [e] at hz; exact absurd hz (by decide)
            have hwz : widthZ (line.getD i 0) = 0 := widthZ_zero.2 hz
            simp (disch := omega) only [wk, wt, wl, ↓reduceIte, Nat.reduceEqDiff, Nat.reduceAdd, Nat.zero_add, not_false_eq_true, not_true_eq_false, t0, t1, t5, t6, t7]
            refine zero_ok.use_pure ?_
            simp (disch := omega) only [wk, wt, wl, ↓reduceIte, Nat.reduceEqDiff, Nat.reduceAdd, Nat.zero_add, not_false_eq_true, not_true_eq_false, t0, t1, t5, t6, t7, hz]
            obtain ⟨h2, e2, VV2, C2, z2⟩ := VV.store1 (P := prog) (t := 3) (v := .int .i64 1) (i := 3) (Ch.wf KK) asz3 (by simp) rfl
            rw [e2]; clear e2
            simp only [List.set_cons_succ, List.set_cons_zero] at VV2
            have KK2 : Keeps h' h2 := KK.step C2 (fun b hb => by omega)
            simp (disch := omega) only [wk, wt, wl, ↓reduceIte, Nat.reduceEqDiff, Nat.reduceAdd, Nat.zero_add, not_false_eq_true, not_true_eq_false, t0, t1, t5, t6, t7]
            have KN := Keeps.new (Ch.wf KK2) 21 (vI [32, line.getD i 0])
            have VV3 := Keeps.var (Ch.wf KK2) KN VV2
            have hlt := VV2.lt (Ch.wf KK2)
            have ON : Own prog h'.size (h2.new 21 (vI [32, line.getD i 0])) 1 (.slice (some ⟨h2.size, 0, none⟩) 2 3) 2 (vI [32, line.getD i 0]) := Own.new (Ch.wf KK2) (e := 21) (Ch.le KK2) asz21 rfl
            obtain ⟨h3, e3, VV4, C3, z3⟩ := VV3.store1 (P := prog) (t := 24) (v := .slice (some ⟨h2.size, 0, none⟩) 2 3) (i := 4) (Ch.wf KN) asz24 (by simp) rfl
            simp only [vI, List.map_cons, List.map_nil] at e3
            rw [e3]; clear e3
            simp only [List.set_cons_succ, List.set_cons_zero] at VV4
            have KK3 : Keeps h' h3 := (KK2.trans KN).step C3 (fun b hb => by omega)
            have OO3 := Ch.own C3 ON (fun b hb e => by simp only [blkOf, Option.some.injEq] at hb; omega)
            have hu : utext (line.getD i 0) (unitsTo line (tabZ tab) i).2 (tabZ tab) = [32, line.getD i 0] := by simp only [utext, h9, hwz, if_false, if_true]
            have hu2 : uwidth (line.getD i 0) (unitsTo line (tabZ tab) i).2 (tabZ tab) = 1 := by simp only [uwidth, h9, hwz, if_false, if_true]
            have OO4 : Own prog h'.size h3 1 (.slice (some ⟨h2.size, 0, none⟩) 2 3) (utext (line.getD i 0) (unitsTo line (tabZ tab) i).2 (tabZ tab)).length (vI (utext (line.getD i 0) (unitsTo line (tabZ tab) i).2 (tabZ tab))) := by rw [hu]; exact OO3
            have FF4 : ∀ b, blkOf (.slice (some ⟨h2.size, 0, none⟩) 2 3) = some b → h'.size ≤ b := fun b hb => by simp only [blkOf, Option.some.injEq] at hb; have := Ch.le KK2; omega
            generalize Value.slice (some ⟨h2.size, 0, none⟩) 2 3 = tv2 at *
            clear KK OO FF VV VV2 VV3 ON OO3 KK2 KN C2 C3
            have KK := KK3
            have OO := OO4
            have FF := FF4
            have VV : Var h3 hS.size [.int .i64 i, .int .i64 (i + 1), .int .i64 (unitsTo line (tabZ tab) i).2, .int .i64 (uwidth (line.getD i 0) (unitsTo line (tabZ tab) i).2 (tabZ tab)), tv2] := by rw [hu2]; exact VV4
            simp (disch := omega) only [wk, wt, wl, ↓reduceIte, Nat.reduceEqDiff, Nat.reduceAdd, Nat.zero_add, not_false_eq_true, not_true_eq_false, t0, t1, t5, t6, t7, h9]
            have Kh4 := K.trans KK
            have hsz2 := Ch.le K
            have L4 := L.keeps KK
            have O4 := OO.base hsz2
            obtain ⟨l5, h5, e5, L5, C5⟩ := UL.push (u := ⟨i, i + 1, (unitsTo line (tabZ tab) i).2, uwidth (line.getD i 0) (unitsTo line (tabZ tab) i).2 (tabZ tab), utext (line.getD i 0) (unitsTo line (tabZ tab) i).2 (tabZ tab)⟩) (Ch.wf Kh4) (Ch.le Kh4) L4 O4 (fun b k bl kl q1 q2 q3 q4 => by
              have f0 := FF b q1
              have f2 := (KK.2.2.2.1 b k f0 q2).resolve_right fun ⟨_, _, e, _⟩ => e
              have f3 := (L.own.1.blk_lt q3).1
              rw [KK.at f3] at q4
              have f5 := (Ch.wf K).2 bl kl q4
              omega) (by omega)
            simp only [cellsU] at e5
            have V5 := Ch.var (Ch.wf Kh4) C5 VV (fun hd => by
              have := (L.own.1.blk_lt hd.1).1
              omega)
            have V5' := V5.load1 (P := prog) (t := 3) underlying3 rfl (i := 3)
            simp only [List.getElem?_cons_succ, List.getElem?_cons_zero] at V5'
            simp (disch := omega) only [wk, wt, wl, ↓reduceIte, Nat.reduceEqDiff, Nat.reduceAdd, Nat.zero_add, not_false_eq_true, not_true_eq_false, t0, t1, t5, t6, t7, t11, VV.loadA (P := prog) (t := 36) underlying36 rfl asz36, buildA5 (P := prog) (h := _) underlying33 asz36 azero36 rfl (v0 := .int .i64 i) (v1 := .int .i64 (i + 1)) (v2 := .int .i64 (unitsTo line (tabZ tab) i).2) (v3 := .int .i64 (uwidth (line.getD i 0) (unitsTo line (tabZ tab) i).2 (tabZ tab))) (v4 := tv2) rfl rfl rfl rfl OO.1.one, e5, V5', IntWalk.i64_in, intOf_int]
            have hs1 : unitsTo line (tabZ tab) (i + 1) = _ := ustep_push (us := (unitsTo line (tabZ tab) i).1) (col := (unitsTo line (tabZ tab) i).2) hpu
            refine ⟨⟨Kh4.step C5 (fun b hb => hb.2), i + 1, l5, _, by simp, by omega, ?_, rfl, L5, ?_⟩, by omega⟩
            · rw [hs1]
            · rw [hs1, List.map_append, hus]; rfl
        · skip
          simp (disch := omega) only [wk, wt, wl, ↓reduceIte, Nat.reduceEqDiff, Nat.reduceAdd, Nat.zero_add, not_false_eq_true, not_true_eq_false, t0, t1, t5, t6, t7, IX, F0, IntWalk.i64_in, RdI.index ha' underlying24 asz21 (q := .i64) (i := u.fr) (by omega) (by omega), RdI.at ha' underlying21 rfl (i := u.fr.toNat) (by omega)]
          refine gateO_dec (fun h9 => ?_) (fun h9 => ?_)
          · simp (disch := omega) only [wk, wt, wl, ↓reduceIte, Nat.reduceEqDiff, Nat.reduceAdd, Nat.zero_add, not_false_eq_true, not_true_eq_false, t0, t1, t5, t6, t7, h9, IX, F0, IntWalk.i64_in, RdI.index ha' underlying24 asz21 (q := .i64) (i := u.fr) (by omega) (by omega), RdI.at ha' underlying21 rfl (i := u.fr.toNat) (by omega)]
            refine condK_dec (fun hm => ?_) (fun hm => ?_)
            · have hj : joins line i u = true := by unfold joins; simp only [hz3, h9, if_true, if_false, Bool.false_eq_true, not_false_eq_true, decide_true, Bool.true_and, decide_eq_true_eq]; omega
              obtain ⟨h2, e2, L2, KK2⟩ := UL.setTo (t := (i : Int) + 1) (Ch.wf K) L
              have K2 := KK2 h rfl K
              obtain ⟨tv', h3, h4, e3, e4, L4, KK4⟩ := UL.addText (r := line.getD i 0) (Ch.wf K2) (Ch.le K2) L2 (by simp only; omega)
              have F4' := ((UL.ur L2).field (i := pre.length) (u := { u with to := (i : Int) + 1 }) (tv := tv) (by simp)).2.2.2.2
              simp (disch := omega) only [wk, wt, wl, ↓reduceIte, Nat.reduceEqDiff, Nat.reduceAdd, Nat.zero_add, not_false_eq_true, not_true_eq_false, t0, t1, t5, t6, t7, IX, IntWalk.i64_in]
              rw [e2]
              simp (disch := omega) only [wk, wt, wl, ↓reduceIte, Nat.reduceEqDiff, Nat.reduceAdd, Nat.zero_add, not_false_eq_true, not_true_eq_false, t0, t1, t5, t6, t7, IX, IntWalk.i64_in, F4', e3, e4, intOf_int]
              have hst : unitsTo line (tabZ tab) i = (pre.map (·.1) ++ [u], (unitsTo line (tabZ tab) i).2) := Prod.ext (by rw [← hus]; simp) rfl
              have hs1 : unitsTo line (tabZ tab) (i + 1) = _ := (congrArg (ustep line (tabZ tab) i (line.getD i 0)) hst).trans (ustep_join hz hj)
              refine ⟨⟨KK4 h rfl K2, i + 1, l, _, by simp, by omega, ?_, rfl, L4, ?_⟩, by omega⟩
              · rw [hs1]
              · rw [hs1]; simp
            · have hpu : (unitsTo line (tabZ tab) i).1 = [] ∨ ¬ zeroB (line.getD i 0) = true ∨ ∃ u, (unitsTo line (tabZ tab) i).1.getLast? = some u ∧ joins line i u = false := .inr (.inr ⟨u, hlast, by unfold joins; simp only [hz3, h9, if_true, if_false, Bool.false_eq_true, not_false_eq_true, decide_true, Bool.true_and, decide_eq_false_iff_not]; omega⟩)
              simp (disch := omega) only [wk, wt, wl, ↓reduceIte, Nat.reduceEqDiff, Nat.reduceAdd, Nat.zero_add, not_false_eq_true, not_true_eq_false, t0, t1, t5, t6, t7, IntWalk.i64_in]
              refine refWidth_ok.use_pure ?_
              simp (disch := omega) only [wk, wt, wl, ↓reduceIte, Nat.reduceEqDiff, Nat.reduceAdd, Nat.zero_add, not_false_eq_true, not_true_eq_false, t0, t1, t5, t6, t7]
              refine (refShow_ok (hline i)).use_pure ?_
              have KS := Keeps.new (Ch.wf K) 21 ((showL (line.getD i 0)).map (Value.int .i32))
              have OS : Own prog h'.size (h'.new 21 ((showL (line.getD i 0)).map (Value.int .i32))) 1 (.slice (some ⟨h'.size, 0, none⟩) (showL (line.getD i 0)).length ((showL (line.getD i 0)).length + 1)) (showL (line.getD i 0)).length (vI (showL (line.getD i 0))) := Own.new (Ch.wf K) (e := 21) (Nat.le_refl _) asz21 (by simp [vI])
              simp (disch := omega) only [wk, wt, wl, ↓reduceIte, Nat.reduceEqDiff, Nat.reduceAdd, Nat.zero_add, not_false_eq_true, not_true_eq_false, t0, t1, t5, t6, t7, build_unit5 (h := h')]
              have fS : ∀ b, blkOf (.slice (some ⟨h'.size, 0, none⟩) (showL (line.getD i 0)).length ((showL (line.getD i 0)).length + 1)) = some b → b = h'.size := fun b hb => by simp only [blkOf, Option.some.injEq] at hb; exact hb.symm
              generalize hsv : Value.slice (some ⟨h'.size, 0, none⟩) (showL (line.getD i 0)).length ((showL (line.getD i 0)).length + 1) = sv at *
              have zS : (h'.new 21 ((showL (line.getD i 0)).map (Value.int .i32))).size = h'.size + 1 := rfl
              generalize h'.new 21 ((showL (line.getD i 0)).map (Value.int .i32)) = hS at *
              have K3 := Keeps.new (Ch.wf KS) 36 [Value.int IntKind.i64 0, Value.int IntKind.i64 0, Value.int IntKind.i64 0, Value.int IntKind.i64 0, Value.slice none 0 0]
              have V3 := Var.new (e := 36) (Ch.wf KS) (cs := [Value.int IntKind.i64 0, Value.int IntKind.i64 0, Value.int IntKind.i64 0, Value.int IntKind.i64 0, Value.slice none 0 0])
              obtain ⟨hh, e4, VV, C4, z4⟩ := V3.store (P := prog) (t := 36) (v := .agg #[.int .i64 i, .int .i64 (i + 1), .int .i64 (unitsTo line (tabZ tab) i).2, .int .i64 (widthZ (line.getD i 0)), sv]) (i := 0) (Ch.wf K3) asz36 (by simp [Value.cells]) (by simp [Value.cells, one_int, OS.1.one])
              rw [e4]; clear e4
              simp only [Value.cells, over_all (xs := [Value.int IntKind.i64 0, Value.int IntKind.i64 0, Value.int IntKind.i64 0, Value.int IntKind.i64 0, Value.slice none 0 0]) (vs := [.int .i64 i, .int .i64 (i + 1), .int .i64 (unitsTo line (tabZ tab) i).2, .int .i64 (widthZ (line.getD i 0)), sv]) rfl] at VV
              have KK : Keeps h' hh := (KS.trans K3).step C4 (fun b hb => by omega)
              have OO := Ch.own C4 (OS.keeps K3) (fun b hb e => by have := fS b hb; omega)
              have FF : ∀ b, blkOf sv = some b → h'.size ≤ b := fun b hb => by have := fS b hb; omega
              have hbb : h'.size < hS.size := by omega
              have nb : blkOf sv ≠ some hS.size := fun e => by have := fS _ e; omega
              clear C4 K3 V3 KS z4
              have h9 : ¬ line.getD i 0 = 9 := by intro e; rw [e] at hz; exact absurd hz (by decide)
              have hwz : widthZ (line.getD i 0) = 0 := widthZ_zero.2 hz
              simp (disch := omega) only [wk, wt, wl, ↓reduceIte, Nat.reduceEqDiff, Nat.reduceAdd, Nat.zero_add, not_false_eq_true, not_true_eq_false, t0, t1, t5, t6, t7]
              refine zero_ok.use_pure ?_
              simp (disch := omega) only [wk, wt, wl, ↓reduceIte, Nat.reduceEqDiff, Nat.reduceAdd, Nat.zero_add, not_false_eq_true, not_true_eq_false, t0, t1, t5, t6, t7, hz]
              obtain ⟨h2, e2, VV2, C2, z2⟩ := VV.store1 (P := prog) (t := 3) (v := .int .i64 1) (i := 3) (Ch.wf KK) asz3 (by simp) rfl
              rw [e2]; clear e2
              simp only [List.set_cons_succ, List.set_cons_zero] at VV2
              have KK2 : Keeps h' h2 := KK.step C2 (fun b hb => by omega)
              simp (disch := omega) only [wk, wt, wl, ↓reduceIte, Nat.reduceEqDiff, Nat.reduceAdd, Nat.zero_add, not_false_eq_true, not_true_eq_false, t0, t1, t5, t6, t7]
              have KN := Keeps.new (Ch.wf KK2) 21 (vI [32, line.getD i 0])
              have VV3 := Keeps.var (Ch.wf KK2) KN VV2
              have hlt := VV2.lt (Ch.wf KK2)
              have ON : Own prog h'.size (h2.new 21 (vI [32, line.getD i 0])) 1 (.slice (some ⟨h2.size, 0, none⟩) 2 3) 2 (vI [32, line.getD i 0]) := Own.new (Ch.wf KK2) (e := 21) (Ch.le KK2) asz21 rfl
              obtain ⟨h3, e3, VV4, C3, z3⟩ := VV3.store1 (P := prog) (t := 24) (v := .slice (some ⟨h2.size, 0, none⟩) 2 3) (i := 4) (Ch.wf KN) asz24 (by simp) rfl
              simp only [vI, List.map_cons, List.map_nil] at e3
              rw [e3]; clear e3
              simp only [List.set_cons_succ, List.set_cons_zero] at VV4
              have KK3 : Keeps h' h3 := (KK2.trans KN).step C3 (fun b hb => by omega)
              have OO3 := Ch.own C3 ON (fun b hb e => by simp only [blkOf, Option.some.injEq] at hb; omega)
              have hu : utext (line.getD i 0) (unitsTo line (tabZ tab) i).2 (tabZ tab) = [32, line.getD i 0] := by simp only [utext, h9, hwz, if_false, if_true]
              have hu2 : uwidth (line.getD i 0) (unitsTo line (tabZ tab) i).2 (tabZ tab) = 1 := by simp only [uwidth, h9, hwz, if_false, if_true]
              have OO4 : Own prog h'.size h3 1 (.slice (some ⟨h2.size, 0, none⟩) 2 3) (utext (line.getD i 0) (unitsTo line (tabZ tab) i).2 (tabZ tab)).length (vI (utext (line.getD i 0) (unitsTo line (tabZ tab) i).2 (tabZ tab))) := by rw [hu]; exact OO3
              have FF4 : ∀ b, blkOf (.slice (some ⟨h2.size, 0, none⟩) 2 3) = some b → h'.size ≤ b := fun b hb => by simp only [blkOf, Option.some.injEq] at hb; have := Ch.le KK2; omega
              generalize Value.slice (some ⟨h2.size, 0, none⟩) 2 3 = tv2 at *
              clear KK OO FF VV VV2 VV3 ON OO3 KK2 KN C2 C3
              have KK := KK3
              have OO := OO4
              have FF := FF4
              have VV : Var h3 hS.size [.int .i64 i, .int .i64 (i + 1), .int .i64 (unitsTo line (tabZ tab) i).2, .int .i64 (uwidth (line.getD i 0) (unitsTo line (tabZ tab) i).2 (tabZ tab)), tv2] := by rw [hu2]; exact VV4
              simp (disch := omega) only [wk, wt, wl, ↓reduceIte, Nat.reduceEqDiff, Nat.reduceAdd, Nat.zero_add, not_false_eq_true, not_true_eq_false, t0, t1, t5, t6, t7, h9]
              have Kh4 := K.trans KK
              have hsz2 := Ch.le K
              have L4 := L.keeps KK
              have O4 := OO.base hsz2
              obtain ⟨l5, h5, e5, L5, C5⟩ := UL.push (u := ⟨i, i + 1, (unitsTo line (tabZ tab) i).2, uwidth (line.getD i 0) (unitsTo line (tabZ tab) i).2 (tabZ tab), utext (line.getD i 0) (unitsTo line (tabZ tab) i).2 (tabZ tab)⟩) (Ch.wf Kh4) (Ch.le Kh4) L4 O4 (fun b k bl kl q1 q2 q3 q4 => by
                have f0 := FF b q1
                have f2 := (KK.2.2.2.1 b k f0 q2).resolve_right fun ⟨_, _, e, _⟩ => e
                have f3 := (L.own.1.blk_lt q3).1
                rw [KK.at f3] at q4
                have f5 := (Ch.wf K).2 bl kl q4
                omega) (by omega)
              simp only [cellsU] at e5
              have V5 := Ch.var (Ch.wf Kh4) C5 VV (fun hd => by
                have := (L.own.1.blk_lt hd.1).1
                omega)
              have V5' := V5.load1 (P := prog) (t := 3) underlying3 rfl (i := 3)
              simp only [List.getElem?_cons_succ, List.getElem?_cons_zero] at V5'
              simp (disch := omega) only [wk, wt, wl, ↓reduceIte, Nat.reduceEqDiff, Nat.reduceAdd, Nat.zero_add, not_false_eq_true, not_true_eq_false, t0, t1, t5, t6, t7, t11, VV.loadA (P := prog) (t := 36) underlying36 rfl asz36, buildA5 (P := prog) (h := _) underlying33 asz36 azero36 rfl (v0 := .int .i64 i) (v1 := .int .i64 (i + 1)) (v2 := .int .i64 (unitsTo line (tabZ tab) i).2) (v3 := .int .i64 (uwidth (line.getD i 0) (unitsTo line (tabZ tab) i).2 (tabZ tab))) (v4 := tv2) rfl rfl rfl rfl OO.1.one, e5, V5', IntWalk.i64_in, intOf_int]
              have hs1 : unitsTo line (tabZ tab) (i + 1) = _ := ustep_push (us := (unitsTo line (tabZ tab) i).1) (col := (unitsTo line (tabZ tab) i).2) hpu
              refine ⟨⟨Kh4.step C5 (fun b hb => hb.2), i + 1, l5, _, by simp, by omega, ?_, rfl, L5, ?_⟩, by omega⟩
              · rw [hs1]
              · rw [hs1, List.map_append, hus]; rfl
          · have hpu : (unitsTo line (tabZ tab) i).1 = [] ∨ ¬ zeroB (line.getD i 0) = true ∨ ∃ u, (unitsTo line (tabZ tab) i).1.getLast? = some u ∧ joins line i u = false := .inr (.inr ⟨u, hlast, by unfold joins; simp only [Decidable.not_not.1 h9, not_true_eq_false, decide_false, Bool.false_and]⟩)
            simp (disch := omega) only [wk, wt, wl, ↓reduceIte, Nat.reduceEqDiff, Nat.reduceAdd, Nat.zero_add, not_false_eq_true, not_true_eq_false, t0, t1, t5, t6, t7, h9, IntWalk.i64_in]
            refine refWidth_ok.use_pure ?_
            simp (disch := omega) only [wk, wt, wl, ↓reduceIte, Nat.reduceEqDiff, Nat.reduceAdd, Nat.zero_add, not_false_eq_true, not_true_eq_false, t0, t1, t5, t6, t7]
            refine (refShow_ok (hline i)).use_pure ?_
            have KS := Keeps.new (Ch.wf K) 21 ((showL (line.getD i 0)).map (Value.int .i32))
            have OS : Own prog h'.size (h'.new 21 ((showL (line.getD i 0)).map (Value.int .i32))) 1 (.slice (some ⟨h'.size, 0, none⟩) (showL (line.getD i 0)).length ((showL (line.getD i 0)).length + 1)) (showL (line.getD i 0)).length (vI (showL (line.getD i 0))) := Own.new (Ch.wf K) (e := 21) (Nat.le_refl _) asz21 (by simp [vI])
            simp (disch := omega) only [wk, wt, wl, ↓reduceIte, Nat.reduceEqDiff, Nat.reduceAdd, Nat.zero_add, not_false_eq_true, not_true_eq_false, t0, t1, t5, t6, t7, build_unit5 (h := h')]
            have fS : ∀ b, blkOf (.slice (some ⟨h'.size, 0, none⟩) (showL (line.getD i 0)).length ((showL (line.getD i 0)).length + 1)) = some b → b = h'.size := fun b hb => by simp only [blkOf, Option.some.injEq] at hb; exact hb.symm
            generalize hsv : Value.slice (some ⟨h'.size, 0, none⟩) (showL (line.getD i 0)).length ((showL (line.getD i 0)).length + 1) = sv at *
            have zS : (h'.new 21 ((showL (line.getD i 0)).map (Value.int .i32))).size = h'.size + 1 := rfl
            generalize h'.new 21 ((showL (line.getD i 0)).map (Value.int .i32)) = hS at *
            have K3 := Keeps.new (Ch.wf KS) 36 [Value.int IntKind.i64 0, Value.int IntKind.i64 0, Value.int IntKind.i64 0, Value.int IntKind.i64 0, Value.slice none 0 0]
            have V3 := Var.new (e := 36) (Ch.wf KS) (cs := [Value.int IntKind.i64 0, Value.int IntKind.i64 0, Value.int IntKind.i64 0, Value.int IntKind.i64 0, Value.slice none 0 0])
            obtain ⟨hh, e4, VV, C4, z4⟩ := V3.store (P := prog) (t := 36) (v := .agg #[.int .i64 i, .int .i64 (i + 1), .int .i64 (unitsTo line (tabZ tab) i).2, .int .i64 (widthZ (line.getD i 0)), sv]) (i := 0) (Ch.wf K3) asz36 (by simp [Value.cells]) (by simp [Value.cells, one_int, OS.1.one])
            rw [e4]; clear e4
            simp only [Value.cells, over_all (xs := [Value.int IntKind.i64 0, Value.int IntKind.i64 0, Value.int IntKind.i64 0, Value.int IntKind.i64 0, Value.slice none 0 0]) (vs := [.int .i64 i, .int .i64 (i + 1), .int .i64 (unitsTo line (tabZ tab) i).2, .int .i64 (widthZ (line.getD i 0)), sv]) rfl] at VV
            have KK : Keeps h' hh := (KS.trans K3).step C4 (fun b hb => by omega)
            have OO := Ch.own C4 (OS.keeps K3) (fun b hb e => by have := fS b hb; omega)
            have FF : ∀ b, blkOf sv = some b → h'.size ≤ b := fun b hb => by have := fS b hb; omega
            have hbb : h'.size < hS.size := by omega
            have nb : blkOf sv ≠ some hS.size := fun e => by have := fS _ e; omega
            clear C4 K3 V3 KS z4
            have h9 : ¬ line.getD i 0 = 9 := by intro e; rw [e] at hz; exact absurd hz (by decide)
            have hwz : widthZ (line.getD i 0) = 0 := widthZ_zero.2 hz
            simp (disch := omega) only [wk, wt, wl, ↓reduceIte, Nat.reduceEqDiff, Nat.reduceAdd, Nat.zero_add, not_false_eq_true, not_true_eq_false, t0, t1, t5, t6, t7]
            refine zero_ok.use_pure ?_
            simp (disch := omega) only [wk, wt, wl, ↓reduceIte, Nat.reduceEqDiff, Nat.reduceAdd, Nat.zero_add, not_false_eq_true, not_true_eq_false, t0, t1, t5, t6, t7, hz]
            obtain ⟨h2, e2, VV2, C2, z2⟩ := VV.store1 (P := prog) (t := 3) (v := .int .i64 1) (i := 3) (Ch.wf KK) asz3 (by simp) rfl
            rw [e2]; clear e2
            simp only [List.set_cons_succ, List.set_cons_zero] at VV2
            have KK2 : Keeps h' h2 := KK.step C2 (fun b hb => by omega)
            simp (disch := omega) only [wk, wt, wl, ↓reduceIte, Nat.reduceEqDiff, Nat.reduceAdd, Nat.zero_add, not_false_eq_true, not_true_eq_false, t0, t1, t5, t6, t7]
            have KN := Keeps.new (Ch.wf KK2) 21 (vI [32, line.getD i 0])
            have VV3 := Keeps.var (Ch.wf KK2) KN VV2
            have hlt := VV2.lt (Ch.wf KK2)
            have ON : Own prog h'.size (h2.new 21 (vI [32, line.getD i 0])) 1 (.slice (some ⟨h2.size, 0, none⟩) 2 3) 2 (vI [32, line.getD i 0]) := Own.new (Ch.wf KK2) (e := 21) (Ch.le KK2) asz21 rfl
            obtain ⟨h3, e3, VV4, C3, z3⟩ := VV3.store1 (P := prog) (t := 24) (v := .slice (some ⟨h2.size, 0, none⟩) 2 3) (i := 4) (Ch.wf KN) asz24 (by simp) rfl
            simp only [vI, List.map_cons, List.map_nil] at e3
            rw [e3]; clear e3
            simp only [List.set_cons_succ, List.set_cons_zero] at VV4
            have KK3 : Keeps h' h3 := (KK2.trans KN).step C3 (fun b hb => by omega)
            have OO3 := Ch.own C3 ON (fun b hb e => by simp only [blkOf, Option.some.injEq] at hb; omega)
            have hu : utext (line.getD i 0) (unitsTo line (tabZ tab) i).2 (tabZ tab) = [32, line.getD i 0] := by simp only [utext, h9, hwz, if_false, if_true]
            have hu2 : uwidth (line.getD i 0) (unitsTo line (tabZ tab) i).2 (tabZ tab) = 1 := by simp only [uwidth, h9, hwz, if_false, if_true]
            have OO4 : Own prog h'.size h3 1 (.slice (some ⟨h2.size, 0, none⟩) 2 3) (utext (line.getD i 0) (unitsTo line (tabZ tab) i).2 (tabZ tab)).length (vI (utext (line.getD i 0) (unitsTo line (tabZ tab) i).2 (tabZ tab))) := by rw [hu]; exact OO3
            have FF4 : ∀ b, blkOf (.slice (some ⟨h2.size, 0, none⟩) 2 3) = some b → h'.size ≤ b := fun b hb => by simp only [blkOf, Option.some.injEq] at hb; have := Ch.le KK2; omega
            generalize Value.slice (some ⟨h2.size, 0, none⟩) 2 3 = tv2 at *
            clear KK OO FF VV VV2 VV3 ON OO3 KK2 KN C2 C3
            have KK := KK3
            have OO := OO4
            have FF := FF4
            have VV : Var h3 hS.size [.int .i64 i, .int .i64 (i + 1), .int .i64 (unitsTo line (tabZ tab) i).2, .int .i64 (uwidth (line.getD i 0) (unitsTo line (tabZ tab) i).2 (tabZ tab)), tv2] := by rw [hu2]; exact VV4
            simp (disch := omega) only [wk, wt, wl, ↓reduceIte, Nat.reduceEqDiff, Nat.reduceAdd, Nat.zero_add, not_false_eq_true, not_true_eq_false, t0, t1, t5, t6, t7, h9]
            have Kh4 := K.trans KK
            have hsz2 := Ch.le K
            have L4 := L.keeps KK
            have O4 := OO.base hsz2
            obtain ⟨l5, h5, e5, L5, C5⟩ := UL.push (u := ⟨i, i + 1, (unitsTo line (tabZ tab) i).2, uwidth (line.getD i 0) (unitsTo line (tabZ tab) i).2 (tabZ tab), utext (line.getD i 0) (unitsTo line (tabZ tab) i).2 (tabZ tab)⟩) (Ch.wf Kh4) (Ch.le Kh4) L4 O4 (fun b k bl kl q1 q2 q3 q4 => by
              have f0 := FF b q1
              have f2 := (KK.2.2.2.1 b k f0 q2).resolve_right fun ⟨_, _, e, _⟩ => e
              have f3 := (L.own.1.blk_lt q3).1
              rw [KK.at f3] at q4
              have f5 := (Ch.wf K).2 bl kl q4
              omega) (by omega)
            simp only [cellsU] at e5
            have V5 := Ch.var (Ch.wf Kh4) C5 VV (fun hd => by
              have := (L.own.1.blk_lt hd.1).1
              omega)
            have V5' := V5.load1 (P := prog) (t := 3) underlying3 rfl (i := 3)
            simp only [List.getElem?_cons_succ, List.getElem?_cons_zero] at V5'
            simp (disch := omega) only [wk, wt, wl, ↓reduceIte, Nat.reduceEqDiff, Nat.reduceAdd, Nat.zero_add, not_false_eq_true, not_true_eq_false, t0, t1, t5, t6, t7, t11, VV.loadA (P := prog) (t := 36) underlying36 rfl asz36, buildA5 (P := prog) (h := _) underlying33 asz36 azero36 rfl (v0 := .int .i64 i) (v1 := .int .i64 (i + 1)) (v2 := .int .i64 (unitsTo line (tabZ tab) i).2) (v3 := .int .i64 (uwidth (line.getD i 0) (unitsTo line (tabZ tab) i).2 (tabZ tab))) (v4 := tv2) rfl rfl rfl rfl OO.1.one, e5, V5', IntWalk.i64_in, intOf_int]
            have hs1 : unitsTo line (tabZ tab) (i + 1) = _ := ustep_push (us := (unitsTo line (tabZ tab) i).1) (col := (unitsTo line (tabZ tab) i).2) hpu
            refine ⟨⟨Kh4.step C5 (fun b hb => hb.2), i + 1, l5, _, by simp, by omega, ?_, rfl, L5, ?_⟩, by omega⟩
            · rw [hs1]
            · rw [hs1, List.map_append, hus]; rfl
      · have hpu : (unitsTo line (tabZ tab) i).1 = [] ∨ ¬ zeroB (line.getD i 0) = true ∨ ∃ u, (unitsTo line (tabZ tab) i).1.getLast? = some u ∧ joins line i u = false := .inl (List.eq_nil_of_length_eq_zero (by omega))
        simp (disch := omega) only [wk, wt, wl, ↓reduceIte, Nat.reduceEqDiff, Nat.reduceAdd, Nat.zero_add, not_false_eq_true, not_true_eq_false, t0, t1, t5, t6, t7, hz, IntWalk.i64_in]
        refine refWidth_ok.use_pure ?_
        simp (disch := omega) only [wk, wt, wl, ↓reduceIte, Nat.reduceEqDiff, Nat.reduceAdd, Nat.zero_add, not_false_eq_true, not_true_eq_false, t0, t1, t5, t6, t7]
        refine (refShow_ok (hline i)).use_pure ?_
        have KS := Keeps.new (Ch.wf K) 21 ((showL (line.getD i 0)).map (Value.int .i32))
        have OS : Own prog h'.size (h'.new 21 ((showL (line.getD i 0)).map (Value.int .i32))) 1 (.slice (some ⟨h'.size, 0, none⟩) (showL (line.getD i 0)).length ((showL (line.getD i 0)).length + 1)) (showL (line.getD i 0)).length (vI (showL (line.getD i 0))) := Own.new (Ch.wf K) (e := 21) (Nat.le_refl _) asz21 (by simp [vI])
        simp (disch := omega) only [wk, wt, wl, ↓reduceIte, Nat.reduceEqDiff, Nat.reduceAdd, Nat.zero_add, not_false_eq_true, not_true_eq_false, t0, t1, t5, t6, t7, build_unit5 (h := h')]
        have fS : ∀ b, blkOf (.slice (some ⟨h'.size, 0, none⟩) (showL (line.getD i 0)).length ((showL (line.getD i 0)).length + 1)) = some b → b = h'.size := fun b hb => by simp only [blkOf, Option.some.injEq] at hb; exact hb.symm
        generalize hsv : Value.slice (some ⟨h'.size, 0, none⟩) (showL (line.getD i 0)).length ((showL (line.getD i 0)).length + 1) = sv at *
        have zS : (h'.new 21 ((showL (line.getD i 0)).map (Value.int .i32))).size = h'.size + 1 := rfl
        generalize h'.new 21 ((showL (line.getD i 0)).map (Value.int .i32)) = hS at *
        have K3 := Keeps.new (Ch.wf KS) 36 [Value.int IntKind.i64 0, Value.int IntKind.i64 0, Value.int IntKind.i64 0, Value.int IntKind.i64 0, Value.slice none 0 0]
        have V3 := Var.new (e := 36) (Ch.wf KS) (cs := [Value.int IntKind.i64 0, Value.int IntKind.i64 0, Value.int IntKind.i64 0, Value.int IntKind.i64 0, Value.slice none 0 0])
        obtain ⟨hh, e4, VV, C4, z4⟩ := V3.store (P := prog) (t := 36) (v := .agg #[.int .i64 i, .int .i64 (i + 1), .int .i64 (unitsTo line (tabZ tab) i).2, .int .i64 (widthZ (line.getD i 0)), sv]) (i := 0) (Ch.wf K3) asz36 (by simp [Value.cells]) (by simp [Value.cells, one_int, OS.1.one])
        rw [e4]; clear e4
        simp only [Value.cells, over_all (xs := [Value.int IntKind.i64 0, Value.int IntKind.i64 0, Value.int IntKind.i64 0, Value.int IntKind.i64 0, Value.slice none 0 0]) (vs := [.int .i64 i, .int .i64 (i + 1), .int .i64 (unitsTo line (tabZ tab) i).2, .int .i64 (widthZ (line.getD i 0)), sv]) rfl] at VV
        have KK : Keeps h' hh := (KS.trans K3).step C4 (fun b hb => by omega)
        have OO := Ch.own C4 (OS.keeps K3) (fun b hb e => by have := fS b hb; omega)
        have FF : ∀ b, blkOf sv = some b → h'.size ≤ b := fun b hb => by have := fS b hb; omega
        have hbb : h'.size < hS.size := by omega
        have nb : blkOf sv ≠ some hS.size := fun e => by have := fS _ e; omega
        clear C4 K3 V3 KS z4
        have h9 : ¬ line.getD i 0 = 9 := by intro e; rw [e] at hz; exact absurd hz (by decide)
        have hwz : widthZ (line.getD i 0) = 0 := widthZ_zero.2 hz
        simp (disch := omega) only [wk, wt, wl, ↓reduceIte, Nat.reduceEqDiff, Nat.reduceAdd, Nat.zero_add, not_false_eq_true, not_true_eq_false, t0, t1, t5, t6, t7]
        refine zero_ok.use_pure ?_
        simp (disch := omega) only [wk, wt, wl, ↓reduceIte, Nat.reduceEqDiff, Nat.reduceAdd, Nat.zero_add, not_false_eq_true, not_true_eq_false, t0, t1, t5, t6, t7, hz]
        obtain ⟨h2, e2, VV2, C2, z2⟩ := VV.store1 (P := prog) (t := 3) (v := .int .i64 1) (i := 3) (Ch.wf KK) asz3 (by simp) rfl
        rw [e2]; clear e2
        simp only [List.set_cons_succ, List.set_cons_zero] at VV2
        have KK2 : Keeps h' h2 := KK.step C2 (fun b hb => by omega)
        simp (disch := omega) only [wk, wt, wl, ↓reduceIte, Nat.reduceEqDiff, Nat.reduceAdd, Nat.zero_add, not_false_eq_true, not_true_eq_false, t0, t1, t5, t6, t7]
        have KN := Keeps.new (Ch.wf KK2) 21 (vI [32, line.getD i 0])
        have VV3 := Keeps.var (Ch.wf KK2) KN VV2
        have hlt := VV2.lt (Ch.wf KK2)
        have ON : Own prog h'.size (h2.new 21 (vI [32, line.getD i 0])) 1 (.slice (some ⟨h2.size, 0, none⟩) 2 3) 2 (vI [32, line.getD i 0]) := Own.new (Ch.wf KK2) (e := 21) (Ch.le KK2) asz21 rfl
        obtain ⟨h3, e3, VV4, C3, z3⟩ := VV3.store1 (P := prog) (t := 24) (v := .slice (some ⟨h2.size, 0, none⟩) 2 3) (i := 4) (Ch.wf KN) asz24 (by simp) rfl
        simp only [vI, List.map_cons, List.map_nil] at e3
        rw [e3]; clear e3
        simp only [List.set_cons_succ, List.set_cons_zero] at VV4
        have KK3 : Keeps h' h3 := (KK2.trans KN).step C3 (fun b hb => by omega)
        have OO3 := Ch.own C3 ON (fun b hb e => by simp only [blkOf, Option.some.injEq] at hb; omega)
        have hu : utext (line.getD i 0) (unitsTo line (tabZ tab) i).2 (tabZ tab) = [32, line.getD i 0] := by simp only [utext, h9, hwz, if_false, if_true]
        have hu2 : uwidth (line.getD i 0) (unitsTo line (tabZ tab) i).2 (tabZ tab) = 1 := by simp only [uwidth, h9, hwz, if_false, if_true]
        have OO4 : Own prog h'.size h3 1 (.slice (some ⟨h2.size, 0, none⟩) 2 3) (utext (line.getD i 0) (unitsTo line (tabZ tab) i).2 (tabZ tab)).length (vI (utext (line.getD i 0) (unitsTo line (tabZ tab) i).2 (tabZ tab))) := by rw [hu]; exact OO3
        have FF4 : ∀ b, blkOf (.slice (some ⟨h2.size, 0, none⟩) 2 3) = some b → h'.size ≤ b := fun b hb => by simp only [blkOf, Option.some.injEq] at hb; have := Ch.le KK2; omega
        generalize Value.slice (some ⟨h2.size, 0, none⟩) 2 3 = tv2 at *
        clear KK OO FF VV VV2 VV3 ON OO3 KK2 KN C2 C3
        have KK := KK3
        have OO := OO4
        have FF := FF4
        have VV : Var h3 hS.size [.int .i64 i, .int .i64 (i + 1), .int .i64 (unitsTo line (tabZ tab) i).2, .int .i64 (uwidth (line.getD i 0) (unitsTo line (tabZ tab) i).2 (tabZ tab)), tv2] := by rw [hu2]; exact VV4
        simp (disch := omega) only [wk, wt, wl, ↓reduceIte, Nat.reduceEqDiff, Nat.reduceAdd, Nat.zero_add, not_false_eq_true, not_true_eq_false, t0, t1, t5, t6, t7, h9]
        have Kh4 := K.trans KK
        have hsz2 := Ch.le K
        have L4 := L.keeps KK
        have O4 := OO.base hsz2
        obtain ⟨l5, h5, e5, L5, C5⟩ := UL.push (u := ⟨i, i + 1, (unitsTo line (tabZ tab) i).2, uwidth (line.getD i 0) (unitsTo line (tabZ tab) i).2 (tabZ tab), utext (line.getD i 0) (unitsTo line (tabZ tab) i).2 (tabZ tab)⟩) (Ch.wf Kh4) (Ch.le Kh4) L4 O4 (fun b k bl kl q1 q2 q3 q4 => by
          have f0 := FF b q1
          have f2 := (KK.2.2.2.1 b k f0 q2).resolve_right fun ⟨_, _, e, _⟩ => e
          have f3 := (L.own.1.blk_lt q3).1
          rw [KK.at f3] at q4
          have f5 := (Ch.wf K).2 bl kl q4
          omega) (by omega)
        simp only [cellsU] at e5
        have V5 := Ch.var (Ch.wf Kh4) C5 VV (fun hd => by
          have := (L.own.1.blk_lt hd.1).1
          omega)
        have V5' := V5.load1 (P := prog) (t := 3) underlying3 rfl (i := 3)
        simp only [List.getElem?_cons_succ, List.getElem?_cons_zero] at V5'
        simp (disch := omega) only [wk, wt, wl, ↓reduceIte, Nat.reduceEqDiff, Nat.reduceAdd, Nat.zero_add, not_false_eq_true, not_true_eq_false, t0, t1, t5, t6, t7, t11, VV.loadA (P := prog) (t := 36) underlying36 rfl asz36, buildA5 (P := prog) (h := _) underlying33 asz36 azero36 rfl (v0 := .int .i64 i) (v1 := .int .i64 (i + 1)) (v2 := .int .i64 (unitsTo line (tabZ tab) i).2) (v3 := .int .i64 (uwidth (line.getD i 0) (unitsTo line (tabZ tab) i).2 (tabZ tab))) (v4 := tv2) rfl rfl rfl rfl OO.1.one, e5, V5', IntWalk.i64_in, intOf_int]
        have hs1 : unitsTo line (tabZ tab) (i + 1) = _ := ustep_push (us := (unitsTo line (tabZ tab) i).1) (col := (unitsTo line (tabZ tab) i).2) hpu
        refine ⟨⟨Kh4.step C5 (fun b hb => hb.2), i + 1, l5, _, by simp, by omega, ?_, rfl, L5, ?_⟩, by omega⟩
        · rw [hs1]
        · rw [hs1, List.map_append, hus]; rfl
    · have hpu : (unitsTo line (tabZ tab) i).1 = [] ∨ ¬ zeroB (line.getD i 0) = true ∨ ∃ u, (unitsTo line (tabZ tab) i).1.getLast? = some u ∧ joins line i u = false := .inr (.inl (by rw [hz]; simp))
      simp (disch := omega) only [wk, wt, wl, ↓reduceIte, Nat.reduceEqDiff, Nat.reduceAdd, Nat.zero_add, not_false_eq_true, not_true_eq_false, t0, t1, t5, t6, t7, hz, IntWalk.i64_in]
      refine refWidth_ok.use_pure ?_
      simp (disch := omega) only [wk, wt, wl, ↓reduceIte, Nat.reduceEqDiff, Nat.reduceAdd, Nat.zero_add, not_false_eq_true, not_true_eq_false, t0, t1, t5, t6, t7]
      refine (refShow_ok (hline i)).use_pure ?_
      have KS := Keeps.new (Ch.wf K) 21 ((showL (line.getD i 0)).map (Value.int .i32))
      have OS : Own prog h'.size (h'.new 21 ((showL (line.getD i 0)).map (Value.int .i32))) 1 (.slice (some ⟨h'.size, 0, none⟩) (showL (line.getD i 0)).length ((showL (line.getD i 0)).length + 1)) (showL (line.getD i 0)).length (vI (showL (line.getD i 0))) := Own.new (Ch.wf K) (e := 21) (Nat.le_refl _) asz21 (by simp [vI])
      simp (disch := omega) only [wk, wt, wl, ↓reduceIte, Nat.reduceEqDiff, Nat.reduceAdd, Nat.zero_add, not_false_eq_true, not_true_eq_false, t0, t1, t5, t6, t7, build_unit5 (h := h')]
      have fS : ∀ b, blkOf (.slice (some ⟨h'.size, 0, none⟩) (showL (line.getD i 0)).length ((showL (line.getD i 0)).length + 1)) = some b → b = h'.size := fun b hb => by simp only [blkOf, Option.some.injEq] at hb; exact hb.symm
      generalize hsv : Value.slice (some ⟨h'.size, 0, none⟩) (showL (line.getD i 0)).length ((showL (line.getD i 0)).length + 1) = sv at *
      have zS : (h'.new 21 ((showL (line.getD i 0)).map (Value.int .i32))).size = h'.size + 1 := rfl
      generalize h'.new 21 ((showL (line.getD i 0)).map (Value.int .i32)) = hS at *
      have K3 := Keeps.new (Ch.wf KS) 36 [Value.int IntKind.i64 0, Value.int IntKind.i64 0, Value.int IntKind.i64 0, Value.int IntKind.i64 0, Value.slice none 0 0]
      have V3 := Var.new (e := 36) (Ch.wf KS) (cs := [Value.int IntKind.i64 0, Value.int IntKind.i64 0, Value.int IntKind.i64 0, Value.int IntKind.i64 0, Value.slice none 0 0])
      obtain ⟨hh, e4, VV, C4, z4⟩ := V3.store (P := prog) (t := 36) (v := .agg #[.int .i64 i, .int .i64 (i + 1), .int .i64 (unitsTo line (tabZ tab) i).2, .int .i64 (widthZ (line.getD i 0)), sv]) (i := 0) (Ch.wf K3) asz36 (by simp [Value.cells]) (by simp [Value.cells, one_int, OS.1.one])
      rw [e4]; clear e4
      simp only [Value.cells, over_all (xs := [Value.int IntKind.i64 0, Value.int IntKind.i64 0, Value.int IntKind.i64 0, Value.int IntKind.i64 0, Value.slice none 0 0]) (vs := [.int .i64 i, .int .i64 (i + 1), .int .i64 (unitsTo line (tabZ tab) i).2, .int .i64 (widthZ (line.getD i 0)), sv]) rfl] at VV
      have KK : Keeps h' hh := (KS.trans K3).step C4 (fun b hb => by omega)
      have OO := Ch.own C4 (OS.keeps K3) (fun b hb e => by have := fS b hb; omega)
      have FF : ∀ b, blkOf sv = some b → h'.size ≤ b := fun b hb => by have := fS b hb; omega
      have hbb : h'.size < hS.size := by omega
      have nb : blkOf sv ≠ some hS.size := fun e => by have := fS _ e; omega
      clear C4 K3 V3 KS z4
      have hwz : ¬ widthZ (line.getD i 0) = 0 := fun e => by have := widthZ_zero.1 e; rw [hz] at this; cases this
      simp (disch := omega) only [wk, wt, wl, ↓reduceIte, Nat.reduceEqDiff, Nat.reduceAdd, Nat.zero_add, not_false_eq_true, not_true_eq_false, t0, t1, t5, t6, t7]
      refine zero_ok.use_pure ?_
      simp (disch := omega) only [wk, wt, wl, ↓reduceIte, Nat.reduceEqDiff, Nat.reduceAdd, Nat.zero_add, not_false_eq_true, not_true_eq_false, t0, t1, t5, t6, t7, hz]
      refine condK_dec (fun h9 => ?_) (fun h9 => ?_)
      · have hm : tabZ tab ≠ 0 := by have := tabZ_range tab; omega
        have hm0 : 0 ≤ (unitsTo line (tabZ tab) i).2 % tabZ tab := Int.emod_nonneg _ hm
        have hm1 : (unitsTo line (tabZ tab) i).2 % tabZ tab < tabZ tab := Int.emod_lt_of_pos _ (by have := tabZ_range tab; omega)
        have hm2 := tabZ_range tab
        simp (disch := omega) only [wk, wt, wl, ↓reduceIte, Nat.reduceEqDiff, Nat.reduceAdd, Nat.zero_add, not_false_eq_true, not_true_eq_false, t0, t1, t5, t6, t7, abin_rem (P := prog) (t := 3) (k := .i64) (x := (unitsTo line (tabZ tab) i).2) (y := tabZ tab) hm, Int.tmod_eq_emod_of_nonneg, IntWalk.i64_in]
        have hu : utext (line.getD i 0) (unitsTo line (tabZ tab) i).2 (tabZ tab) = List.replicate (tabZ tab - (unitsTo line (tabZ tab) i).2 % tabZ tab).toNat 32 := by simp only [utext, h9, if_true]
        have hu2 : uwidth (line.getD i 0) (unitsTo line (tabZ tab) i).2 (tabZ tab) = tabZ tab - (unitsTo line (tabZ tab) i).2 % tabZ tab := by simp only [uwidth, h9, if_true]
        obtain ⟨h2, e2, VV2, C2, z2⟩ := VV.store1 (P := prog) (t := 3) (v := .int .i64 (tabZ tab - (unitsTo line (tabZ tab) i).2 % tabZ tab)) (i := 3) (Ch.wf KK) asz3 (by simp) rfl
        rw [e2]; clear e2
        simp only [List.set_cons_succ, List.set_cons_zero] at VV2
        have KK2 : Keeps h' h2 := KK.step C2 (fun b hb => by omega)
        obtain ⟨h3, e3, VV3, C3, z3⟩ := VV2.store1 (P := prog) (t := 24) (v := .slice none 0 0) (i := 4) (Ch.wf KK2) asz24 (by simp) rfl
        simp (disch := omega) only [wk, wt, wl, ↓reduceIte, Nat.reduceEqDiff, Nat.reduceAdd, Nat.zero_add, not_false_eq_true, not_true_eq_false, t0, t1, t5, t6, t7]
        rw [e3]; clear e3
        simp only [List.set_cons_succ, List.set_cons_zero] at VV3
        have KK3 : Keeps h' h3 := KK2.step C3 (fun b hb => by omega)
        simp (disch := omega) only [wk, wt, wl, ↓reduceIte, Nat.reduceEqDiff, Nat.reduceAdd, Nat.zero_add, not_false_eq_true, not_true_eq_false, t0, t1, t5, t6, t7]
        clear C2 C3 VV VV2 KK KK2 OO FF z2 z3
        refine W_loop (fun tm hh => Keeps h' hh ∧ tm 0 = a ∧ tm 1 = .int .i64 (tabZ tab) ∧ tm 5 = l ∧ tm 6 = .int .i64 (unitsTo line (tabZ tab) i).2 ∧ tm 7 = .int .i64 i ∧ tm 11 = .pointer (some ⟨hS.size, 0, none⟩) ∧ ∃ (j : Nat) (tv : Value), tm 12 = .int .i64 j ∧ (j : Int) ≤ tabZ tab - (unitsTo line (tabZ tab) i).2 % tabZ tab ∧
          Var hh hS.size [.int .i64 i, .int .i64 (i + 1), .int .i64 (unitsTo line (tabZ tab) i).2, .int .i64 (tabZ tab - (unitsTo line (tabZ tab) i).2 % tabZ tab), tv] ∧
          (∀ b, blkOf tv = some b → h'.size ≤ b ∧ b ≠ hS.size) ∧ Own prog h'.size hh 1 tv j (vI (List.replicate j 32)))
          (fun tm _ => (tabZ tab - (unitsTo line (tabZ tab) i).2 % tabZ tab - intOf (tm 12)).toNat) ⟨KK3, (by first | rfl | (simp only [wk, wt, wl, ↓reduceIte, Nat.reduceEqDiff, Nat.reduceAdd, Nat.zero_add, not_false_eq_true, not_true_eq_false, t0]; done) | (simp only [wk, wt, wl, ↓reduceIte, Nat.reduceEqDiff, Nat.reduceAdd, Nat.zero_add, not_false_eq_true, not_true_eq_false, t0]; rfl)), (by first | rfl | (simp only [wk, wt, wl, ↓reduceIte, Nat.reduceEqDiff, Nat.reduceAdd, Nat.zero_add, not_false_eq_true, not_true_eq_false, t1]; done) | (simp only [wk, wt, wl, ↓reduceIte, Nat.reduceEqDiff, Nat.reduceAdd, Nat.zero_add, not_false_eq_true, not_true_eq_false, t1]; rfl)), (by first | rfl | (simp only [wk, wt, wl, ↓reduceIte, Nat.reduceEqDiff, Nat.reduceAdd, Nat.zero_add, not_false_eq_true, not_true_eq_false, t5]; done) | (simp only [wk, wt, wl, ↓reduceIte, Nat.reduceEqDiff, Nat.reduceAdd, Nat.zero_add, not_false_eq_true, not_true_eq_false, t5]; rfl)), (by first | rfl | (simp only [wk, wt, wl, ↓reduceIte, Nat.reduceEqDiff, Nat.reduceAdd, Nat.zero_add, not_false_eq_true, not_true_eq_false, t6]; done) | (simp only [wk, wt, wl, ↓reduceIte, Nat.reduceEqDiff, Nat.reduceAdd, Nat.zero_add, not_false_eq_true, not_true_eq_false, t6]; rfl)), (by first | rfl | (simp only [wk, wt, wl, ↓reduceIte, Nat.reduceEqDiff, Nat.reduceAdd, Nat.zero_add, not_false_eq_true, not_true_eq_false, t7]; done) | (simp only [wk, wt, wl, ↓reduceIte, Nat.reduceEqDiff, Nat.reduceAdd, Nat.zero_add, not_false_eq_true, not_true_eq_false, t7]; rfl)), (by first | rfl | (simp only [wk, wt, wl, ↓reduceIte, Nat.reduceEqDiff, Nat.reduceAdd, Nat.zero_add, not_false_eq_true, not_true_eq_false]; done) | (simp only [wk, wt, wl, ↓reduceIte, Nat.reduceEqDiff, Nat.reduceAdd, Nat.zero_add, not_false_eq_true, not_true_eq_false]; rfl)), 0, .slice none 0 0, (by first | rfl | (simp only [wk, wt, wl, ↓reduceIte, Nat.reduceEqDiff, Nat.reduceAdd, Nat.zero_add, not_false_eq_true, not_true_eq_false]; done) | (simp only [wk, wt, wl, ↓reduceIte, Nat.reduceEqDiff, Nat.reduceAdd, Nat.zero_add, not_false_eq_true, not_true_eq_false]; rfl)), by omega, VV3, by simp [blkOf], Own.nil0⟩ ?_
        clear KK3 VV3 t0 t1 t5 t6 t7
        rintro tm hh ⟨KK, t0, t1, t5, t6, t7, t11, j, tv2, t12, hj, VV, FB, OO⟩
        simp (disch := omega) only [wk, wt, wl, ↓reduceIte, Nat.reduceEqDiff, Nat.reduceAdd, Nat.zero_add, not_false_eq_true, not_true_eq_false, t0, t1, t5, t6, t7, t11, t12, VV.load1 (P := prog) (t := 3) underlying3 rfl (i := 3)]
        refine condK_dec (fun hd2 => ?_) (fun hd2 => ?_)
        · simp (disch := omega) only [wk, wt, wl, ↓reduceIte, Nat.reduceEqDiff, Nat.reduceAdd, Nat.zero_add, not_false_eq_true, not_true_eq_false, t0, t1, t5, t6, t7, t11, t12, VV.load1 (P := prog) (t := 24) underlying24 rfl (i := 4)]
          obtain ⟨tv', h4, e4, O4, C4, R4, ev4, k4, f4, f5⟩ := Own.append1 (P := prog) (Ch.wf KK) (Ch.le KK) OO underlying24 elem21 fits21 (by decide) (by decide) (xs := [.int .i32 32]) rfl (by omega)
          rw [e4]; clear e4
          have VV4 := Ch.var (Ch.wf KK) C4 VV (fun e => (FB _ e.1).2 rfl)
          have KK4 : Keeps h' h4 := KK.step C4 (fun b hb => hb.2)
          obtain ⟨h5, e5, VV5, C5, z5⟩ := VV4.store1 (P := prog) (t := 24) (v := tv') (i := 4) (Ch.wf KK4) asz24 (by simp) (by rw [ev4]; rfl)
          simp (disch := omega) only [wk, wt, wl, ↓reduceIte, Nat.reduceEqDiff, Nat.reduceAdd, Nat.zero_add, not_false_eq_true, not_true_eq_false, t0, t1, t5, t6, t7, t11, t12]
          rw [e5]; clear e5
          have hlt := VV.lt (Ch.wf KK)
          simp only [List.set_cons_succ, List.set_cons_zero] at VV5
          simp (disch := omega) only [wk, wt, wl, ↓reduceIte, Nat.reduceEqDiff, Nat.reduceAdd, Nat.zero_add, not_false_eq_true, not_true_eq_false, t0, t1, t5, t6, t7, t11, t12, IntWalk.i64_in, intOf_int]
          refine ⟨⟨KK4.step C5 (fun b hb => by omega), j + 1, tv', by simp, by omega, VV5, fun b hb => ?_, ?_⟩, by omega⟩
          · rw [ev4] at hb; simp only [blkOf, Option.some.injEq] at hb
            have := Ch.le KK
            omega
          · rw [show vI (List.replicate (j + 1) 32) = vI (List.replicate j 32) ++ [.int .i32 32] by simp [vI, List.replicate_succ']]
            exact Ch.own C5 O4 (fun b hb e => by rw [ev4] at hb; simp only [blkOf, Option.some.injEq] at hb; omega)
        · have hj' : (j : Int) = tabZ tab - (unitsTo line (tabZ tab) i).2 % tabZ tab := by omega
          have hu3 : utext (line.getD i 0) (unitsTo line (tabZ tab) i).2 (tabZ tab) = List.replicate j 32 := by rw [hu, ← hj']; simp
          have OO' := OO
          have VV' := VV
          clear OO VV
          have OO : Own prog h'.size hh 1 tv2 (utext (line.getD i 0) (unitsTo line (tabZ tab) i).2 (tabZ tab)).length (vI (utext (line.getD i 0) (unitsTo line (tabZ tab) i).2 (tabZ tab))) := by rw [hu3, List.length_replicate]; exact OO'
          have VV : Var hh hS.size [.int .i64 i, .int .i64 (i + 1), .int .i64 (unitsTo line (tabZ tab) i).2, .int .i64 (uwidth (line.getD i 0) (unitsTo line (tabZ tab) i).2 (tabZ tab)), tv2] := by rw [hu2]; exact VV'
          have FF : ∀ b, blkOf tv2 = some b → h'.size ≤ b := fun b hb => (FB b hb).1
          simp (disch := omega) only [wk, wt, wl, ↓reduceIte, Nat.reduceEqDiff, Nat.reduceAdd, Nat.zero_add, not_false_eq_true, not_true_eq_false, t0, t1, t5, t6, t7, t11]
          have Kh4 := K.trans KK
          have hsz2 := Ch.le K
          have L4 := L.keeps KK
          have O4 := OO.base hsz2
          obtain ⟨l5, h5, e5, L5, C5⟩ := UL.push (u := ⟨i, i + 1, (unitsTo line (tabZ tab) i).2, uwidth (line.getD i 0) (unitsTo line (tabZ tab) i).2 (tabZ tab), utext (line.getD i 0) (unitsTo line (tabZ tab) i).2 (tabZ tab)⟩) (Ch.wf Kh4) (Ch.le Kh4) L4 O4 (fun b k bl kl q1 q2 q3 q4 => by
            have f0 := FF b q1
            have f2 := (KK.2.2.2.1 b k f0 q2).resolve_right fun ⟨_, _, e, _⟩ => e
            have f3 := (L.own.1.blk_lt q3).1
            rw [KK.at f3] at q4
            have f5 := (Ch.wf K).2 bl kl q4
            omega) (by omega)
          simp only [cellsU] at e5
          have V5 := Ch.var (Ch.wf Kh4) C5 VV (fun hd => by
            have := (L.own.1.blk_lt hd.1).1
            omega)
          have V5' := V5.load1 (P := prog) (t := 3) underlying3 rfl (i := 3)
          simp only [List.getElem?_cons_succ, List.getElem?_cons_zero] at V5'
          simp (disch := omega) only [wk, wt, wl, ↓reduceIte, Nat.reduceEqDiff, Nat.reduceAdd, Nat.zero_add, not_false_eq_true, not_true_eq_false, t0, t1, t5, t6, t7, t11, VV.loadA (P := prog) (t := 36) underlying36 rfl asz36, buildA5 (P := prog) (h := _) underlying33 asz36 azero36 rfl (v0 := .int .i64 i) (v1 := .int .i64 (i + 1)) (v2 := .int .i64 (unitsTo line (tabZ tab) i).2) (v3 := .int .i64 (uwidth (line.getD i 0) (unitsTo line (tabZ tab) i).2 (tabZ tab))) (v4 := tv2) rfl rfl rfl rfl OO.1.one, e5, V5', IntWalk.i64_in, intOf_int]
          have hs1 : unitsTo line (tabZ tab) (i + 1) = _ := ustep_push (us := (unitsTo line (tabZ tab) i).1) (col := (unitsTo line (tabZ tab) i).2) hpu
          refine ⟨⟨Kh4.step C5 (fun b hb => hb.2), i + 1, l5, _, by simp, by omega, ?_, rfl, L5, ?_⟩, by omega⟩
          · rw [hs1]
          · rw [hs1, List.map_append, hus]; rfl
      · have hu : utext (line.getD i 0) (unitsTo line (tabZ tab) i).2 (tabZ tab) = showL (line.getD i 0) := by simp only [utext, h9, hwz, if_false]
        have hu2 : uwidth (line.getD i 0) (unitsTo line (tabZ tab) i).2 (tabZ tab) = widthZ (line.getD i 0) := by simp only [uwidth, h9, hwz, if_false]
        have OO' := OO
        have VV' := VV
        clear OO VV
        have OO : Own prog h'.size hh 1 sv (utext (line.getD i 0) (unitsTo line (tabZ tab) i).2 (tabZ tab)).length (vI (utext (line.getD i 0) (unitsTo line (tabZ tab) i).2 (tabZ tab))) := by rw [hu]; exact OO'
        have VV : Var hh hS.size [.int .i64 i, .int .i64 (i + 1), .int .i64 (unitsTo line (tabZ tab) i).2, .int .i64 (uwidth (line.getD i 0) (unitsTo line (tabZ tab) i).2 (tabZ tab)), sv] := by rw [hu2]; exact VV'
        clear OO' VV'
        generalize sv = tv2 at *
        have t11 : True := trivial
        simp (disch := omega) only [wk, wt, wl, ↓reduceIte, Nat.reduceEqDiff, Nat.reduceAdd, Nat.zero_add, not_false_eq_true, not_true_eq_false, t0, t1, t5, t6, t7]
        have Kh4 := K.trans KK
        have hsz2 := Ch.le K
        have L4 := L.keeps KK
        have O4 := OO.base hsz2
        obtain ⟨l5, h5, e5, L5, C5⟩ := UL.push (u := ⟨i, i + 1, (unitsTo line (tabZ tab) i).2, uwidth (line.getD i 0) (unitsTo line (tabZ tab) i).2 (tabZ tab), utext (line.getD i 0) (unitsTo line (tabZ tab) i).2 (tabZ tab)⟩) (Ch.wf Kh4) (Ch.le Kh4) L4 O4 (fun b k bl kl q1 q2 q3 q4 => by
          have f0 := FF b q1
          have f2 := (KK.2.2.2.1 b k f0 q2).resolve_right fun ⟨_, _, e, _⟩ => e
          have f3 := (L.own.1.blk_lt q3).1
          rw [KK.at f3] at q4
          have f5 := (Ch.wf K).2 bl kl q4
          omega) (by omega)
        simp only [cellsU] at e5
        have V5 := Ch.var (Ch.wf Kh4) C5 VV (fun hd => by
          have := (L.own.1.blk_lt hd.1).1
          omega)
        have V5' := V5.load1 (P := prog) (t := 3) underlying3 rfl (i := 3)
        simp only [List.getElem?_cons_succ, List.getElem?_cons_zero] at V5'
        simp (disch := omega) only [wk, wt, wl, ↓reduceIte, Nat.reduceEqDiff, Nat.reduceAdd, Nat.zero_add, not_false_eq_true, not_true_eq_false, t0, t1, t5, t6, t7, t11, VV.loadA (P := prog) (t := 36) underlying36 rfl asz36, buildA5 (P := prog) (h := _) underlying33 asz36 azero36 rfl (v0 := .int .i64 i) (v1 := .int .i64 (i + 1)) (v2 := .int .i64 (unitsTo line (tabZ tab) i).2) (v3 := .int .i64 (uwidth (line.getD i 0) (unitsTo line (tabZ tab) i).2 (tabZ tab))) (v4 := tv2) rfl rfl rfl rfl OO.1.one, e5, V5', IntWalk.i64_in, intOf_int]
        have hs1 : unitsTo line (tabZ tab) (i + 1) = _ := ustep_push (us := (unitsTo line (tabZ tab) i).1) (col := (unitsTo line (tabZ tab) i).2) hpu
        refine ⟨⟨Kh4.step C5 (fun b hb => hb.2), i + 1, l5, _, by simp, by omega, ?_, rfl, L5, ?_⟩, by omega⟩
        · rw [hs1]
        · rw [hs1, List.map_append, hus]; rfl
  · simp only [wk, wt, wl, ↓reduceIte, Nat.reduceEqDiff, Nat.reduceAdd, Nat.zero_add, not_false_eq_true, not_true_eq_false, t0, t1, t5, t6, t7]
    have hil : i = line.length := by omega
    exact ⟨uv, by rw [hus, hil]; rfl, L.ur, K⟩
end Go.Proofs.YtcnjmmffipjadaaDoor.Am
