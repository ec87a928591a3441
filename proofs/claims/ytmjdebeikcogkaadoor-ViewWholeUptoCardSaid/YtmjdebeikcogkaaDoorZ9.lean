/- The texts of this seat, one behind another (part 9 of 10): the frame (an abstract machine), the contracts of functions, the laws. -/
import Derived.Test.YtmjdebeikcogkaaDoorZ8
section
/- Views: ViewWhole, told of abstract memory: it answers true. -/
set_option linter.unusedSimpArgs false
set_option linter.unusedVariables false
set_option maxHeartbeats 4000000
set_option maxRecDepth 20000
namespace Go.Proofs.YtmjdebeikcogkaaDoor.Am
open Go Go.RowKit Go.Proofs.Tryd
theorem at_right {α : Type} {X Y : List α} {j : Nat} : (X ++ Y)[X.length + j]? = Y[j]? := by
  rw [List.getElem?_append_right (by omega)]; congr 1; omega
theorem viewWhole_law {v fv : Value} {ls : List (List Int)} {l : List F} {cols tab : Int} {wrap : Bool} {h : Heap} (T : LT h v ls) (R : FR h fv l) (G : Gl h) (HR : RunesOk ls) (hb : sumL ls ≤ 1048576) (hls : ls.length ≤ 1048576) (hl : l.length ≤ 1048576) :
    ACalls prog 5 #[v, lookV fv cols tab wrap] h (fun y h' => y = .bool true ∧ Keeps h h') := by
  refine acalls_of_W' func5 rfl (by kernel_rfl) (by kernel_rfl) (by simp [ntmps5]) ?_
  intro H
  have N1 := Keeps.new H 25 (lookC fv cols tab wrap)
  have V1 := Var.new (e := 25) H (cs := lookC fv cols tab wrap)
  have LA := fun {hh : Heap} (V : Var hh h.size (lookC fv cols tab wrap)) => V.loadA (P := prog) (t := 25) underlying25 rfl asz25
  simp only [lookC] at LA
  have bx := boxV_look (h := h) (cols := cols) (tab := tab) (wrap := wrap) R.one
  simp only [lookC] at V1 N1 bx
  simp only [wk, wt, wl, ↓reduceIte, Nat.reduceEqDiff, Nat.reduceAdd, Nat.zero_add, not_false_eq_true, not_true_eq_false, aeff_box, bx]
  generalize h.new 25 [fv, .int .i64 cols, .int .i64 tab, .bool wrap] = h1 at *
  simp only [wk, wt, wl, ↓reduceIte, Nat.reduceEqDiff, Nat.reduceAdd, Nat.zero_add, not_false_eq_true, not_true_eq_false, LA V1]
  refine (fit_ok (cols := cols) (tab := tab) (wrap := wrap) (T.keeps N1) (RS.keeps R N1) (fun _ => by omega) (by omega) (by omega)).use ?_
  rintro _ h2 ⟨rfl, K2⟩
  have K02 := N1.trans K2
  have V2 := Keeps.var (Ch.wf N1) K2 V1
  cases hfit : fitB ls l with
  | false =>
    simp only [wk, wt, wl, ↓reduceIte, Nat.reduceEqDiff, Nat.reduceAdd, Nat.zero_add, not_false_eq_true, not_true_eq_false, Bool.not_false]
    exact K02
  | true =>
    obtain ⟨hn, h300, HT, _⟩ := fit_text hfit HR
    obtain ⟨h3, e3, V3, C3, z3⟩ := V2.store1 (P := prog) (t := 4) (v := .bool true) (i := 3) (Ch.wf K2) asz4 (by simp) rfl
    simp only [List.set_cons_succ, List.set_cons_zero] at V3
    have K3 := K02.step C3 fun b e => by omega
    obtain ⟨cz, hcz⟩ : ∃ cz, imax 1 cols = cz := ⟨_, rfl⟩
    have hczs := imax_spec 1 cols
    rw [hcz] at hczs
    have hcz2 : colsZ cz = cz := by unfold colsZ; rw [if_neg (by omega)]
    have C1 := V3.load1 (P := prog) (t := 3) underlying3 rfl (i := 1)
    simp only [List.getElem?_cons_succ, List.getElem?_cons_zero] at C1
    obtain ⟨h4, e4, V4, C4, z4⟩ := V3.store1 (P := prog) (t := 3) (v := .int .i64 cz) (i := 1) (Ch.wf C3) asz3 (by simp) rfl
    simp only [List.set_cons_succ, List.set_cons_zero] at V4
    have K4 := K3.step C4 fun b e => by omega
    have L4 := fun {hh : Heap} (V : Var hh h.size [fv, .int .i64 cz, .int .i64 tab, .bool true]) => And.intro (V.load1 (P := prog) (t := 23) underlying23 rfl (i := 0)) (And.intro (V.load1 (P := prog) (t := 3) underlying3 rfl (i := 1)) (V.load1 (P := prog) (t := 3) underlying3 rfl (i := 2)))
    simp only [List.getElem?_cons_succ, List.getElem?_cons_zero] at L4
    simp (disch := omega) only [wk, wt, wl, ↓reduceIte, Nat.reduceEqDiff, Nat.reduceAdd, Nat.zero_add, not_false_eq_true, not_true_eq_false, Bool.not_true, e3, C1, mxV, hcz, e4, L4 V4]
    refine (viewRows_ok (cols := cz) (tab := tab) (wrap := true) (T.keeps K4) (RS.keeps R K4) (G.keeps K4) HT h300 (by omega) hn).use ?_
    rintro rv h5 ⟨r, hrows, hr3, RV, K5, hfr⟩
    have K05 := K4.trans K5
    have V5 := Keeps.var (Ch.wf K4) K5 V4
    have hhead : (shownZ (rightOr l) 0).1 = 0 := by
      rcases shownZ_range (l := rightOr l) (x := 0) with e | ⟨k, f, _, _, hf, _, f1, f2, e⟩
      · rw [e]
      · have := (rightB_at (rightOr_right (l := l))).1 k f hf
        rw [e]; simp only; omega
    simp (disch := omega) only [wk, wt, wl, ↓reduceIte, Nat.reduceEqDiff, Nat.reduceAdd, Nat.zero_add, not_false_eq_true, not_true_eq_false, L4 V5]
    refine (refRight_ok (RS.keeps R K05) (by omega)).use_pure ?_
    cases hr : rightB l with
    | true =>
      have hro : rightOr l = l := by unfold rightOr; rw [if_pos hr]
      have K03 := K05
      have VX := V5
      have RVx := RV
      simp (disch := omega) only [wk, wt, wl, ↓reduceIte, Nat.reduceEqDiff, Nat.reduceAdd, Nat.zero_add, not_false_eq_true, not_true_eq_false, Bool.not_true]
      have hlt0 := VX.lt (Ch.wf K03)
      have RF := (by rw [hro]; exact RS.keeps R K03 : FR h5 fv (rightOr l))
      have LX := fun {hh : Heap} (V : Var hh h.size [fv, .int .i64 cz, .int .i64 tab, .bool true]) => And.intro (V.load1 (P := prog) (t := 23) underlying23 rfl (i := 0)) (And.intro (V.load1 (P := prog) (t := 3) underlying3 rfl (i := 1)) (V.load1 (P := prog) (t := 3) underlying3 rfl (i := 2)))
      simp only [List.getElem?_cons_succ, List.getElem?_cons_zero] at LX
      refine W_loop (fun tm h' => Keeps h5 h' ∧ tm 0 = v ∧ tm 3 = .pointer (some ⟨h.size, 0, none⟩) ∧ tm 5 = rv ∧ ∃ (i : Int) (A C : List F), tm 7 = .int .i64 i ∧ tm 6 = .int .i64 (viewL ls cz tab true A).length ∧ r = A ++ C ∧ 0 ≤ i ∧ i ≤ 2199023255553 ∧ RowsR (rightOr l) ls.length i C ∧ (shownZ (rightOr l) i).1 = i)
        (fun tm _ => (ls.length - intOf (tm 7)).toNat) ⟨Keeps.refl (Ch.wf K03), (by first | rfl | (simp only [wk, wt, wl, ↓reduceIte, Nat.reduceEqDiff, Nat.reduceAdd, Nat.zero_add, not_false_eq_true, not_true_eq_false]; done) | (simp only [wk, wt, wl, ↓reduceIte, Nat.reduceEqDiff, Nat.reduceAdd, Nat.zero_add, not_false_eq_true, not_true_eq_false]; rfl)), (by first | rfl | (simp only [wk, wt, wl, ↓reduceIte, Nat.reduceEqDiff, Nat.reduceAdd, Nat.zero_add, not_false_eq_true, not_true_eq_false]; done) | (simp only [wk, wt, wl, ↓reduceIte, Nat.reduceEqDiff, Nat.reduceAdd, Nat.zero_add, not_false_eq_true, not_true_eq_false]; rfl)), (by first | rfl | (simp only [wk, wt, wl, ↓reduceIte, Nat.reduceEqDiff, Nat.reduceAdd, Nat.zero_add, not_false_eq_true, not_true_eq_false]; done) | (simp only [wk, wt, wl, ↓reduceIte, Nat.reduceEqDiff, Nat.reduceAdd, Nat.zero_add, not_false_eq_true, not_true_eq_false]; rfl)), 0, [], r, (by first | rfl | (simp only [wk, wt, wl, ↓reduceIte, Nat.reduceEqDiff, Nat.reduceAdd, Nat.zero_add, not_false_eq_true, not_true_eq_false]; done) | (simp only [wk, wt, wl, ↓reduceIte, Nat.reduceEqDiff, Nat.reduceAdd, Nat.zero_add, not_false_eq_true, not_true_eq_false]; rfl)), (by first | rfl | (simp only [wk, wt, wl, ↓reduceIte, Nat.reduceEqDiff, Nat.reduceAdd, Nat.zero_add, not_false_eq_true, not_true_eq_false]; done) | (simp only [wk, wt, wl, ↓reduceIte, Nat.reduceEqDiff, Nat.reduceAdd, Nat.zero_add, not_false_eq_true, not_true_eq_false]; rfl)), rfl, Int.le_refl _, by omega, hrows, hhead⟩ ?_
      rintro tm h' ⟨K, t0, t3, t5, i, A, C, t7, t6, hrc, hi0, hi2, hrw, hh⟩
      have KK := K03.trans K
      have T' := T.keeps KK
      simp only [wk, wt, wl, ↓reduceIte, Nat.reduceEqDiff, Nat.reduceAdd, Nat.zero_add, not_false_eq_true, not_true_eq_false, t0, t3, t5, t6, t7, T'.len]
      refine condK_dec (fun hd => ?_) (fun hd => ?_)
      · have V' := Keeps.var (Ch.wf K03) K VX
        have RV' : RR h' rv _ := RS.keeps RVx K
        have hrne : C ≠ [] := fun e => by subst e; cases hrw with | done g => exact g hd
        cases hrw with
        | done g => exact absurd rfl hrne
        | @step _ C' hlt hrw' =>
        obtain ⟨f, hf⟩ : ∃ f : F, f = ⟨i, (if (ls.length : Int) < nextZ1 (rightOr l) i then (ls.length : Int) else nextZ1 (rightOr l) i) - 1, (shutF (rightOr l) i).isSome⟩ := ⟨_, rfl⟩
        rw [← hf] at hrc
        have hfi : f.fr = i := by rw [hf]
        have hfc : f.cl = (shutF (rightOr l) i).isSome := by rw [hf]
        have hvl : viewL ls cz tab true r = viewL ls cz tab true A ++ (rowsOf ls cz tab true f ++ viewL ls cz tab true C') := by rw [hrc]; simp [viewL]
        have hvA : viewL ls cz tab true (A ++ [f]) = viewL ls cz tab true A ++ rowsOf ls cz tab true f := by simp [viewL]
        have hrA : r = (A ++ [f]) ++ C' := by rw [hrc]; simp
        have hnx := nextZ1_lt (rightOr l) i
        have hsi := shownZ_in (rightOr_near hn) (x := i) (by omega)
        have hnb : nextZ1 (rightOr l) i = (shownZ (rightOr l) i).2 + 1 := rfl
        have hhn : (shownZ (rightOr l) (nextZ1 (rightOr l) i)).1 = nextZ1 (rightOr l) i := head_next rightOr_right hh
        have hlenA : (viewL ls cz tab true A).length ≤ 40000000 := by
          have h1 := viewL_len HT (cols := cz) (tab := tab) (wrap := true) (r := A)
          have h2 : A.length ≤ r.length := by rw [hrc]; simp
          omega
        have hlenR := RV'.len underlying28
        have hln : ∀ y, y ∈ rowsOf ls cz tab true f → y.ln = i := fun y hy => (rowsOf_mem hy).1.trans hfi
        have hC' : ∀ y, y ∈ viewL ls cz tab true C' → i < y.ln := fun y hy => by
          obtain ⟨g, hg, hy⟩ := List.mem_flatMap.1 hy
          have := rowsR_in hrw' (by omega) g hg
          rw [(rowsOf_mem hy).1]; omega
        cases hcl : f.cl with
        | true =>
          have hro := rowsOf_cl (ls := ls) (cols := cz) (tab := tab) (wrap := true) hcl
          have hx0 : (viewL ls cz tab true r)[(viewL ls cz tab true A).length]? = some ⟨f.fr, 0, f.to + 1 - f.fr, true⟩ := by
            have := at_right (X := viewL ls cz tab true A) (Y := rowsOf ls cz tab true f ++ viewL ls cz tab true C') (j := 0)
            rw [hvl]; rw [Nat.add_zero] at this; rw [this, hro]; rfl
          have hatl := (List.getElem?_eq_some_iff.1 hx0).1
          obtain ⟨B0, B1, B2, B3, B4⟩ := RR.flds RV' hx0
          simp only [hfi] at B0 B1 B2 B3 B4
          have IX := Rd.index RV' underlying28 asz37 (q := .i64) (i := ((viewL ls cz tab true A).length : Int)) (by omega) (by omega)
          simp only [Int.toNat_natCast] at IX
          have d1 : decide (((viewL ls cz tab true r).length : Int) ≤ (viewL ls cz tab true A).length) = false := decide_eq_false (by omega)
          have d2 : decide (¬ i = i) = false := decide_eq_false (by simp)
          have wi : IntKind.i64.wrap (i + 1) = i + 1 := IntWalk.i64_in _ (by omega)
          have wat : IntKind.i64.wrap (((viewL ls cz tab true A).length : Int) + 1) = ((viewL ls cz tab true A).length : Int) + 1 := IntWalk.i64_in _ (by omega)
          simp only [wk, wt, wl, ↓reduceIte, Nat.reduceEqDiff, Nat.reduceAdd, Nat.zero_add, not_false_eq_true, not_true_eq_false, t0, t3, t5, t6, t7, hlenR, d1, d2, IX, B0, B3, LX V']
          refine (refNext_ok (x := i) (RS.keeps RF K) (by have := (rightB_at (rightOr_right (l := l))).2.2; omega) (rightOr_near hn) (by omega)).use_pure ?_
          have d3 : decide ((shownZ (rightOr l) i).2 + 1 = i + 1) = false := decide_eq_false (next_shut rightOr_right hh (by rw [← hfc]; exact hcl))
          simp only [wk, wt, wl, ↓reduceIte, Nat.reduceEqDiff, Nat.reduceAdd, Nat.zero_add, not_false_eq_true, not_true_eq_false, t0, t3, t5, t6, t7, wi, wat, d3, LX V']
          refine (refNext_ok (x := i) (RS.keeps RF K) (by have := (rightB_at (rightOr_right (l := l))).2.2; omega) (rightOr_near hn) (by omega)).use_pure ?_
          simp only [wk, wt, wl, ↓reduceIte, Nat.reduceEqDiff, Nat.reduceAdd, Nat.zero_add, not_false_eq_true, not_true_eq_false, t0, t3, t5, t6, t7, intOf_int]
          refine ⟨⟨K, nextZ1 (rightOr l) i, A ++ [f], C', rfl, ?_, hrA, by omega, by omega, hrw', hhn⟩, by omega⟩
          rw [hvA, hro]; simp
        | false =>
          obtain ⟨k, xs, hfk, hkl, hxs, hgd, hrn, hxl⟩ := HT.get (f := f) (by omega) (by omega)
          obtain ⟨xv, X1, X2⟩ := T'.at hxs
          have hik : i = (k : Int) := by omega
          have hro := rowsOf_op (ls := ls) (cols := cz) (tab := tab) (wrap := true) hcl
          rw [hgd, hcz2, hfi] at hro
          obtain ⟨ps, hps⟩ : ∃ ps, rowsG cz true (unitsL xs tab) 0 0 = ps := ⟨_, rfl⟩
          rw [hps] at hro
          have hparts := rowsL_parts (line := xs) (tab := tab) (cols := cz)
          rw [hps] at hparts
          have hpl : ps.length ≤ 10002 := by
            have := rowsOf_len HT (cols := cz) (tab := tab) (wrap := true) (f := f)
            rw [hro, List.length_map] at this; exact this
          have hps0 : ps ≠ [] := by rw [← hps]; exact rowsG_ne
          have hrow : ∀ (j : Nat) p, ps[j]? = some p → (viewL ls cz tab true r)[(viewL ls cz tab true A).length + j]? = some ⟨i, p.1, p.2, false⟩ := fun j p hp => by
            have hj : j < (rowsOf ls cz tab true f).length := by rw [hro, List.length_map]; exact (List.getElem?_eq_some_iff.1 hp).1
            rw [hvl, at_right, List.getElem?_append_left hj, hro, List.getElem?_map, hp]; rfl
          have hend : ∀ y, (viewL ls cz tab true r)[(viewL ls cz tab true A).length + ps.length]? = some y → i < y.ln := fun y hy => by
            have hpl2 : (rowsOf ls cz tab true f).length = ps.length := by rw [hro, List.length_map]
            rw [hvl, at_right, List.getElem?_append_right (by omega)] at hy
            exact hC' y (List.mem_of_getElem? hy)
          obtain ⟨base, hbase⟩ : ∃ base, (viewL ls cz tab true A).length = base := ⟨_, rfl⟩
          rw [hbase] at hrow hend hlenA t6
          obtain ⟨us, hus⟩ : ∃ us, unitsL xs tab = us := ⟨_, rfl⟩
          rw [hus] at hparts
          have huok := unitsL_ok (line := xs) (tab := tab)
          rw [hus] at huok
          have hul := huok.len
          have hcol1 := huok.col1
          obtain ⟨p0, hp0⟩ : ∃ p, ps[0]? = some p := by
            cases ps with
            | nil => exact absurd rfl hps0
            | cons p _ => exact ⟨p, rfl⟩
          have hx0 := hrow 0 p0 hp0
          rw [Nat.add_zero] at hx0
          have hatl := (List.getElem?_eq_some_iff.1 hx0).1
          obtain ⟨B0, B1, B2, B3, B4⟩ := RR.flds RV' hx0
          simp only at B0 B1 B2 B3 B4
          have IX := Rd.index RV' underlying28 asz37 (q := .i64) (i := (base : Int)) (by omega) (by omega)
          simp only [Int.toNat_natCast] at IX
          have d1 : decide (((viewL ls cz tab true r).length : Int) ≤ (base : Int)) = false := decide_eq_false (by omega)
          have d2 : decide (¬ i = i) = false := decide_eq_false (by simp)
          have IT := T'.index hkl
          rw [← hik] at IT
          simp only [wk, wt, wl, ↓reduceIte, Nat.reduceEqDiff, Nat.reduceAdd, Nat.zero_add, not_false_eq_true, not_true_eq_false, t0, t3, t5, t6, t7, hlenR, d1, d2, IX, B0, B3]
          refine adraw_order [(0, false), (1, false), (2, false), (3, false), (4, false), (5, false), (6, true), (7, false)] mixed (by kernel_rfl) (by kernel_rfl) (by kernel_rfl) (by with_reducible repeat (first | exact PF_retK | refine PF_thenK ?_ | refine PF_blockK ?_)) ?_
          simp only [wk, wt, wl, ↓reduceIte, Nat.reduceEqDiff, Nat.reduceAdd, Nat.zero_add, not_false_eq_true, not_true_eq_false, dK_t, t0, t3, t5, t6, t7, IT, X1, LX V']
          refine (refUnits_ok (tab := tab) X2 hrn hxl).use ?_
          rintro ul h6 ⟨uv, hu, UV, K6⟩
          rw [hus] at hu
          have hu' := hu
          have huvl : uv.length = us.length := by rw [← hu]; simp
          have K06 := K.trans K6
          have KK6 := K03.trans K06
          simp only [wk, wt, wl, ↓reduceIte, Nat.reduceEqDiff, Nat.reduceAdd, Nat.zero_add, not_false_eq_true, not_true_eq_false, dK_t, t0, t3, t5, t6, t7]
          refine ⟨K6.reads (Ch.wf K), ?_⟩
          refine W_loop (fun tm h' => Keeps h6 h' ∧ tm 0 = v ∧ tm 3 = .pointer (some ⟨h.size, 0, none⟩) ∧ tm 5 = rv ∧ tm 7 = .int .i64 i ∧ tm 8 = ul ∧ ∃ (j n : Nat) (c : Int), tm 6 = .int .i64 ((base : Int) + j) ∧ tm 9 = .int .i64 n ∧ tm 10 = .int .i64 c ∧ j ≤ ps.length ∧ n ≤ us.length ∧ 0 ≤ c ∧
              (Parts cz c (us.drop n) (ps.drop j) ∨ us = [] ∧ n = 0 ∧ j = 0 ∧ ps = [(0, 0)] ∧ c = 0)) (fun tm _ => ((base : Int) + ps.length - intOf (tm 6)).toNat)
            ⟨Keeps.refl (Ch.wf K6), (by first | rfl | (simp only [wk, wt, wl, ↓reduceIte, Nat.reduceEqDiff, Nat.reduceAdd, Nat.zero_add, not_false_eq_true, not_true_eq_false]; done) | (simp only [wk, wt, wl, ↓reduceIte, Nat.reduceEqDiff, Nat.reduceAdd, Nat.zero_add, not_false_eq_true, not_true_eq_false]; rfl) | (simp only [wk, wt, wl, ↓reduceIte, Nat.reduceEqDiff, Nat.reduceAdd, Nat.zero_add, not_false_eq_true, not_true_eq_false, t0]; done) | (simp only [wk, wt, wl, ↓reduceIte, Nat.reduceEqDiff, Nat.reduceAdd, Nat.zero_add, not_false_eq_true, not_true_eq_false, t0]; rfl)), (by first | rfl | (simp only [wk, wt, wl, ↓reduceIte, Nat.reduceEqDiff, Nat.reduceAdd, Nat.zero_add, not_false_eq_true, not_true_eq_false]; done) | (simp only [wk, wt, wl, ↓reduceIte, Nat.reduceEqDiff, Nat.reduceAdd, Nat.zero_add, not_false_eq_true, not_true_eq_false]; rfl) | (simp only [wk, wt, wl, ↓reduceIte, Nat.reduceEqDiff, Nat.reduceAdd, Nat.zero_add, not_false_eq_true, not_true_eq_false, t3]; done) | (simp only [wk, wt, wl, ↓reduceIte, Nat.reduceEqDiff, Nat.reduceAdd, Nat.zero_add, not_false_eq_true, not_true_eq_false, t3]; rfl)), (by first | rfl | (simp only [wk, wt, wl, ↓reduceIte, Nat.reduceEqDiff, Nat.reduceAdd, Nat.zero_add, not_false_eq_true, not_true_eq_false]; done) | (simp only [wk, wt, wl, ↓reduceIte, Nat.reduceEqDiff, Nat.reduceAdd, Nat.zero_add, not_false_eq_true, not_true_eq_false]; rfl) | (simp only [wk, wt, wl, ↓reduceIte, Nat.reduceEqDiff, Nat.reduceAdd, Nat.zero_add, not_false_eq_true, not_true_eq_false, t5]; done) | (simp only [wk, wt, wl, ↓reduceIte, Nat.reduceEqDiff, Nat.reduceAdd, Nat.zero_add, not_false_eq_true, not_true_eq_false, t5]; rfl)), (by first | rfl | (simp only [wk, wt, wl, ↓reduceIte, Nat.reduceEqDiff, Nat.reduceAdd, Nat.zero_add, not_false_eq_true, not_true_eq_false]; done) | (simp only [wk, wt, wl, ↓reduceIte, Nat.reduceEqDiff, Nat.reduceAdd, Nat.zero_add, not_false_eq_true, not_true_eq_false]; rfl) | (simp only [wk, wt, wl, ↓reduceIte, Nat.reduceEqDiff, Nat.reduceAdd, Nat.zero_add, not_false_eq_true, not_true_eq_false, t7]; done) | (simp only [wk, wt, wl, ↓reduceIte, Nat.reduceEqDiff, Nat.reduceAdd, Nat.zero_add, not_false_eq_true, not_true_eq_false, t7]; rfl)), (by first | rfl | (simp only [wk, wt, wl, ↓reduceIte, Nat.reduceEqDiff, Nat.reduceAdd, Nat.zero_add, not_false_eq_true, not_true_eq_false]; done) | (simp only [wk, wt, wl, ↓reduceIte, Nat.reduceEqDiff, Nat.reduceAdd, Nat.zero_add, not_false_eq_true, not_true_eq_false]; rfl)), 0, 0, 0, (show _ = Value.int .i64 (base : Int) from (by first | rfl | (simp only [wk, wt, wl, ↓reduceIte, Nat.reduceEqDiff, Nat.reduceAdd, Nat.zero_add, not_false_eq_true, not_true_eq_false]; done) | (simp only [wk, wt, wl, ↓reduceIte, Nat.reduceEqDiff, Nat.reduceAdd, Nat.zero_add, not_false_eq_true, not_true_eq_false]; rfl) | (simp only [wk, wt, wl, ↓reduceIte, Nat.reduceEqDiff, Nat.reduceAdd, Nat.zero_add, not_false_eq_true, not_true_eq_false, t6]; done) | (simp only [wk, wt, wl, ↓reduceIte, Nat.reduceEqDiff, Nat.reduceAdd, Nat.zero_add, not_false_eq_true, not_true_eq_false, t6]; rfl))).trans (by simp), (by first | rfl | (simp only [wk, wt, wl, ↓reduceIte, Nat.reduceEqDiff, Nat.reduceAdd, Nat.zero_add, not_false_eq_true, not_true_eq_false]; done) | (simp only [wk, wt, wl, ↓reduceIte, Nat.reduceEqDiff, Nat.reduceAdd, Nat.zero_add, not_false_eq_true, not_true_eq_false]; rfl)), (by first | rfl | (simp only [wk, wt, wl, ↓reduceIte, Nat.reduceEqDiff, Nat.reduceAdd, Nat.zero_add, not_false_eq_true, not_true_eq_false]; done) | (simp only [wk, wt, wl, ↓reduceIte, Nat.reduceEqDiff, Nat.reduceAdd, Nat.zero_add, not_false_eq_true, not_true_eq_false]; rfl)), by omega, by omega, Int.le_refl _, by
              rcases hparts with q | ⟨q1, q2, _⟩
              · exact .inl q
              · exact .inr ⟨q1, rfl, rfl, q2, rfl⟩⟩ ?_
          rintro tm h7 ⟨K7, t0, t3, t5, t7, t8, j, n, c, t6, t9, t10, hj, hnl, hc0, hst⟩
          have K07 := K06.trans K7
          have RV7 : RR h7 rv _ := RS.keeps RVx K07
          have UV7 := UV.keeps K7
          have hlenR7 := RV7.len underlying28
          have hlenU7 := UV7.rd.len underlying41
          rw [huvl] at hlenU7
          have V7 := Keeps.var (Ch.wf K03) K07 VX
          simp only [wk, wt, wl, ↓reduceIte, Nat.reduceEqDiff, Nat.reduceAdd, Nat.zero_add, not_false_eq_true, not_true_eq_false, t0, t3, t5, t6, t7, t8, t9, t10, hlenR7]
          by_cases hjl : j < ps.length
          · obtain ⟨p, hp⟩ : ∃ p, ps[j]? = some p := ⟨ps[j], List.getElem?_eq_getElem hjl⟩
            have hxj := hrow j p hp
            have hjt := (List.getElem?_eq_some_iff.1 hxj).1
            have hdr := dropAt hp
            obtain ⟨B0, B1, B2, B3, B4⟩ := RR.flds RV7 hxj
            simp only at B0 B1 B2 B3 B4
            have IX := Rd.index RV7 underlying28 asz37 (q := .i64) (i := ((base + j : Nat) : Int)) (by omega) (by omega)
            simp only [Int.toNat_natCast] at IX
            have ecast : ((base + j : Nat) : Int) = (base : Int) + j := by omega
            rw [ecast] at IX
            have d3 : decide ((base : Int) + j < ((viewL ls cz tab true r).length : Int)) = true := decide_eq_true (by omega)
            have d4 : decide (i = i) = true := decide_eq_true rfl
            simp only [wk, wt, wl, ↓reduceIte, Nat.reduceEqDiff, Nat.reduceAdd, Nat.zero_add, not_false_eq_true, not_true_eq_false, t0, t3, t5, t6, t7, t8, t9, t10, hlenR7, d3, d4, IX, B0, B4]
            have N8 := Keeps.new (Ch.wf K7) 37 [Value.int IntKind.i64 0, Value.int IntKind.i64 0, Value.int IntKind.i64 0, Value.bool false]
            have X8 := Var.new (e := 37) (Ch.wf K7) (cs := [Value.int IntKind.i64 0, Value.int IntKind.i64 0, Value.int IntKind.i64 0, Value.bool false])
            obtain ⟨h9, e9, Vf, C9, z9⟩ := X8.store (P := prog) (t := 37) (v := .agg #[.int .i64 i, .int .i64 p.1, .int .i64 p.2, .bool false]) (i := 0) (Ch.wf N8) asz37 (by simp [Value.cells]) (by simp [Value.cells, one])
            rw [e9]; clear e9
            simp only [Value.cells, over_all (xs := [Value.int IntKind.i64 0, Value.int IntKind.i64 0, Value.int IntKind.i64 0, Value.bool false]) (vs := [.int .i64 i, .int .i64 p.1, .int .i64 p.2, .bool false]) rfl] at Vf
            have K19 := N8.step C9 (fun b hb => by omega)
            clear N8 X8 C9
            have K9 := K7.trans K19
            have V9 := Keeps.var (Ch.wf K7) K19 V7
            have UV9 := UV7.keeps K19
            have hlenU9 := UV9.rd.len underlying41
            rw [huvl] at hlenU9
            have A1 := Vf.load1 (P := prog) (t := 3) underlying3 rfl (i := 1)
            have A2 := Vf.load1 (P := prog) (t := 3) underlying3 rfl (i := 2)
            simp only [List.getElem?_cons_succ, List.getElem?_cons_zero] at A1 A2
            have wat : IntKind.i64.wrap ((base : Int) + j + 1) = (base : Int) + j + 1 := IntWalk.i64_in _ (by omega)
            have hpc : p.1 = c ∧ c ≤ p.2 := by
              rcases hst with q | ⟨_, _, e0, q, rfl⟩
              · rw [hdr] at q
                generalize us.drop n = us' at q
                cases q with
                | row hc _ _ _ _ _ => exact ⟨rfl, hc⟩
              · subst e0; rw [q] at hp; simp at hp; subst hp; exact ⟨rfl, by simp⟩
            have d5 : decide (¬ p.1 = c) = false := decide_eq_false (by simp [hpc.1])
            have d6 : decide (p.2 < p.1) = false := decide_eq_false (by omega)
            simp only [wk, wt, wl, ↓reduceIte, Nat.reduceEqDiff, Nat.reduceAdd, Nat.zero_add, not_false_eq_true, not_true_eq_false, t0, t3, t5, t6, t7, t8, t9, t10, A1, A2, d5, d6]
            rcases hst with q | ⟨q1, q2, q3, q4, q5⟩
            · rw [hdr] at q
              obtain ⟨usn, husn⟩ : ∃ usn, us.drop n = usn := ⟨_, rfl⟩
              rw [husn] at q
              obtain ⟨a, b⟩ := p
              simp only at hpc d5 d6 A1 A2 q
              cases q with
              | @row _ _ g us' u ps' hc hg hu hw hr tq =>
              have hgl : n + g.length + 1 ≤ us.length := by
                have := congrArg List.length husn
                simp at this; omega
              have hgu : ∀ (m : Nat), m ≤ g.length → ∃ w tv, uv[n + m]? = some (w, tv) ∧ w.col < b ∧ (m = g.length → w = u) ∧ 0 ≤ w.col ∧ w.col + w.wd ≤ 640000 := fun m hm => by
                have hlt : n + m < uv.length := by omega
                obtain ⟨⟨w, tv⟩, hx⟩ : ∃ x, uv[n + m]? = some x := ⟨uv[n + m], List.getElem?_eq_getElem hlt⟩
                have hw' : us[n + m]? = some w := by rw [← hu', List.getElem?_map, hx]; rfl
                have h2 : (g ++ u :: us')[m]? = some w := by rw [← husn, List.getElem?_drop]; exact hw'
                have hb2 := huok.each w (List.mem_of_getElem? hw')
                refine ⟨w, tv, hx, ?_, fun e => ?_, by omega, by omega⟩
                · rcases Nat.lt_or_eq_of_le hm with q | q
                  · rw [List.getElem?_append_left q] at h2
                    exact hg w (List.mem_append.2 (.inl (List.mem_of_getElem? h2)))
                  · subst q; rw [at_mid] at h2; cases h2; exact hg u (by simp)
                · subst e; rw [at_mid] at h2; cases h2; rfl
              have hgn : ∀ w tv, uv[n + (g.length + 1)]? = some (w, tv) → b ≤ w.col := fun w tv hx => by
                have hw' : us[n + (g.length + 1)]? = some w := by rw [← hu', List.getElem?_map, hx]; rfl
                have h2 : (g ++ u :: us')[g.length + 1]? = some w := by rw [← husn, List.getElem?_drop]; exact hw'
                exact hr w (at_post (Nat.lt_succ_self _) h2)
              refine W_loop (fun tm h' => h' = h9 ∧ tm 0 = v ∧ tm 3 = .pointer (some ⟨h.size, 0, none⟩) ∧ tm 5 = rv ∧ tm 7 = .int .i64 i ∧ tm 8 = ul ∧ tm 6 = .int .i64 ((base : Int) + j) ∧ tm 10 = .int .i64 c ∧ tm 11 = .pointer (some ⟨h7.size, 0, none⟩) ∧ ∃ m : Nat, tm 9 = .int .i64 ((n : Int) + m) ∧ tm 12 = .int .i64 m ∧ m ≤ g.length + 1)
                (fun tm _ => (g.length + 1 - intOf (tm 12)).toNat) ⟨rfl, (by first | rfl | (simp only [wk, wt, wl, ↓reduceIte, Nat.reduceEqDiff, Nat.reduceAdd, Nat.zero_add, not_false_eq_true, not_true_eq_false]; done) | (simp only [wk, wt, wl, ↓reduceIte, Nat.reduceEqDiff, Nat.reduceAdd, Nat.zero_add, not_false_eq_true, not_true_eq_false]; rfl) | (simp only [wk, wt, wl, ↓reduceIte, Nat.reduceEqDiff, Nat.reduceAdd, Nat.zero_add, not_false_eq_true, not_true_eq_false, t0]; done) | (simp only [wk, wt, wl, ↓reduceIte, Nat.reduceEqDiff, Nat.reduceAdd, Nat.zero_add, not_false_eq_true, not_true_eq_false, t0]; rfl)), (by first | rfl | (simp only [wk, wt, wl, ↓reduceIte, Nat.reduceEqDiff, Nat.reduceAdd, Nat.zero_add, not_false_eq_true, not_true_eq_false]; done) | (simp only [wk, wt, wl, ↓reduceIte, Nat.reduceEqDiff, Nat.reduceAdd, Nat.zero_add, not_false_eq_true, not_true_eq_false]; rfl) | (simp only [wk, wt, wl, ↓reduceIte, Nat.reduceEqDiff, Nat.reduceAdd, Nat.zero_add, not_false_eq_true, not_true_eq_false, t3]; done) | (simp only [wk, wt, wl, ↓reduceIte, Nat.reduceEqDiff, Nat.reduceAdd, Nat.zero_add, not_false_eq_true, not_true_eq_false, t3]; rfl)), (by first | rfl | (simp only [wk, wt, wl, ↓reduceIte, Nat.reduceEqDiff, Nat.reduceAdd, Nat.zero_add, not_false_eq_true, not_true_eq_false]; done) | (simp only [wk, wt, wl, ↓reduceIte, Nat.reduceEqDiff, Nat.reduceAdd, Nat.zero_add, not_false_eq_true, not_true_eq_false]; rfl) | (simp only [wk, wt, wl, ↓reduceIte, Nat.reduceEqDiff, Nat.reduceAdd, Nat.zero_add, not_false_eq_true, not_true_eq_false, t5]; done) | (simp only [wk, wt, wl, ↓reduceIte, Nat.reduceEqDiff, Nat.reduceAdd, Nat.zero_add, not_false_eq_true, not_true_eq_false, t5]; rfl)), (by first | rfl | (simp only [wk, wt, wl, ↓reduceIte, Nat.reduceEqDiff, Nat.reduceAdd, Nat.zero_add, not_false_eq_true, not_true_eq_false]; done) | (simp only [wk, wt, wl, ↓reduceIte, Nat.reduceEqDiff, Nat.reduceAdd, Nat.zero_add, not_false_eq_true, not_true_eq_false]; rfl) | (simp only [wk, wt, wl, ↓reduceIte, Nat.reduceEqDiff, Nat.reduceAdd, Nat.zero_add, not_false_eq_true, not_true_eq_false, t7]; done) | (simp only [wk, wt, wl, ↓reduceIte, Nat.reduceEqDiff, Nat.reduceAdd, Nat.zero_add, not_false_eq_true, not_true_eq_false, t7]; rfl)), (by first | rfl | (simp only [wk, wt, wl, ↓reduceIte, Nat.reduceEqDiff, Nat.reduceAdd, Nat.zero_add, not_false_eq_true, not_true_eq_false]; done) | (simp only [wk, wt, wl, ↓reduceIte, Nat.reduceEqDiff, Nat.reduceAdd, Nat.zero_add, not_false_eq_true, not_true_eq_false]; rfl) | (simp only [wk, wt, wl, ↓reduceIte, Nat.reduceEqDiff, Nat.reduceAdd, Nat.zero_add, not_false_eq_true, not_true_eq_false, t8]; done) | (simp only [wk, wt, wl, ↓reduceIte, Nat.reduceEqDiff, Nat.reduceAdd, Nat.zero_add, not_false_eq_true, not_true_eq_false, t8]; rfl)), (by first | rfl | (simp only [wk, wt, wl, ↓reduceIte, Nat.reduceEqDiff, Nat.reduceAdd, Nat.zero_add, not_false_eq_true, not_true_eq_false]; done) | (simp only [wk, wt, wl, ↓reduceIte, Nat.reduceEqDiff, Nat.reduceAdd, Nat.zero_add, not_false_eq_true, not_true_eq_false]; rfl) | (simp only [wk, wt, wl, ↓reduceIte, Nat.reduceEqDiff, Nat.reduceAdd, Nat.zero_add, not_false_eq_true, not_true_eq_false, t6]; done) | (simp only [wk, wt, wl, ↓reduceIte, Nat.reduceEqDiff, Nat.reduceAdd, Nat.zero_add, not_false_eq_true, not_true_eq_false, t6]; rfl)), (by first | rfl | (simp only [wk, wt, wl, ↓reduceIte, Nat.reduceEqDiff, Nat.reduceAdd, Nat.zero_add, not_false_eq_true, not_true_eq_false]; done) | (simp only [wk, wt, wl, ↓reduceIte, Nat.reduceEqDiff, Nat.reduceAdd, Nat.zero_add, not_false_eq_true, not_true_eq_false]; rfl) | (simp only [wk, wt, wl, ↓reduceIte, Nat.reduceEqDiff, Nat.reduceAdd, Nat.zero_add, not_false_eq_true, not_true_eq_false, t10]; done) | (simp only [wk, wt, wl, ↓reduceIte, Nat.reduceEqDiff, Nat.reduceAdd, Nat.zero_add, not_false_eq_true, not_true_eq_false, t10]; rfl)), (by first | rfl | (simp only [wk, wt, wl, ↓reduceIte, Nat.reduceEqDiff, Nat.reduceAdd, Nat.zero_add, not_false_eq_true, not_true_eq_false]; done) | (simp only [wk, wt, wl, ↓reduceIte, Nat.reduceEqDiff, Nat.reduceAdd, Nat.zero_add, not_false_eq_true, not_true_eq_false]; rfl)), 0, (show _ = Value.int .i64 (n : Int) from (by first | rfl | (simp only [wk, wt, wl, ↓reduceIte, Nat.reduceEqDiff, Nat.reduceAdd, Nat.zero_add, not_false_eq_true, not_true_eq_false]; done) | (simp only [wk, wt, wl, ↓reduceIte, Nat.reduceEqDiff, Nat.reduceAdd, Nat.zero_add, not_false_eq_true, not_true_eq_false]; rfl) | (simp only [wk, wt, wl, ↓reduceIte, Nat.reduceEqDiff, Nat.reduceAdd, Nat.zero_add, not_false_eq_true, not_true_eq_false, t9]; done) | (simp only [wk, wt, wl, ↓reduceIte, Nat.reduceEqDiff, Nat.reduceAdd, Nat.zero_add, not_false_eq_true, not_true_eq_false, t9]; rfl))).trans (by simp), (by first | rfl | (simp only [wk, wt, wl, ↓reduceIte, Nat.reduceEqDiff, Nat.reduceAdd, Nat.zero_add, not_false_eq_true, not_true_eq_false]; done) | (simp only [wk, wt, wl, ↓reduceIte, Nat.reduceEqDiff, Nat.reduceAdd, Nat.zero_add, not_false_eq_true, not_true_eq_false]; rfl)), by omega⟩ ?_
              rintro tm hq ⟨rfl, t0, t3, t5, t7, t8, t6, t10, t11, m, t9, t12, hm⟩
              simp only [wk, wt, wl, ↓reduceIte, Nat.reduceEqDiff, Nat.reduceAdd, Nat.zero_add, not_false_eq_true, not_true_eq_false]
              refine adraw_order [(0, false), (1, false), (2, false), (3, false), (4, false), (5, false), (6, false), (7, false), (8, false), (9, false), (10, false), (11, false), (12, false), (13, false)] mixed (by kernel_rfl) (by kernel_rfl) (by kernel_rfl) (by with_reducible repeat (first | exact PF_retK | refine PF_thenK ?_ | refine PF_blockK ?_)) ?_
              by_cases hml : m ≤ g.length
              · obtain ⟨w, tv, hx, g1, g2, g3, g4⟩ := hgu m hml
                obtain ⟨U0, U1, U2, U3, U4⟩ := UV9.field hx
                have IU := Rd.index UV9.rd underlying41 asz45 (q := .i64) (i := ((n + m : Nat) : Int)) (by omega) (by omega)
                simp only [Int.toNat_natCast] at IU
                rw [show ((n + m : Nat) : Int) = (n : Int) + m by omega] at IU
                have d7 : decide ((n : Int) + m < (us.length : Int)) = true := decide_eq_true (by omega)
                have d8 := decide_eq_true g1
                have w1 : IntKind.i64.wrap ((n : Int) + m + 1) = (n : Int) + m + 1 := IntWalk.i64_in _ (by omega)
                have w2 : IntKind.i64.wrap ((m : Int) + 1) = (m : Int) + 1 := IntWalk.i64_in _ (by omega)
                simp only [wk, wt, wl, ↓reduceIte, Nat.reduceEqDiff, Nat.reduceAdd, Nat.zero_add, not_false_eq_true, not_true_eq_false, t0, t3, t5, t6, t7, t8, t9, t10, t11, t12, hlenU9, IU, U2, A2, d7, d8, w1, w2, intOf_int]
                exact ⟨⟨m + 1, by simp; omega, by simp, by omega⟩, by omega⟩
              · have hme : m = g.length + 1 := by omega
                subst hme
                by_cases hlt2 : n + (g.length + 1) < us.length
                · obtain ⟨⟨w', tv'⟩, hx'⟩ : ∃ x, uv[n + (g.length + 1)]? = some x := ⟨uv[n + (g.length + 1)]'(by omega), List.getElem?_eq_getElem (by omega)⟩
                  obtain ⟨U0, U1, U2, U3, U4⟩ := UV9.field hx'
                  have IU := Rd.index UV9.rd underlying41 asz45 (q := .i64) (i := ((n + (g.length + 1) : Nat) : Int)) (by omega) (by omega)
                  simp only [Int.toNat_natCast] at IU
                  rw [show ((n + (g.length + 1) : Nat) : Int) = (n : Int) + ((g.length + 1 : Nat) : Int) by omega] at IU
                  have d7 : decide ((n : Int) + ((g.length + 1 : Nat) : Int) < (us.length : Int)) = true := decide_eq_true (by omega)
                  have d8 : decide (w'.col < b) = false := decide_eq_false (by have := hgn w' tv' hx'; omega)
                  simp only [wk, wt, wl, ↓reduceIte, Nat.reduceEqDiff, Nat.reduceAdd, Nat.zero_add, not_false_eq_true, not_true_eq_false, t0, t3, t5, t6, t7, t8, t9, t10, t11, t12, hlenU9, IU, U2, A2, d7, d8]
                  clear U0 U1 U2 U3 U4 IU
                  refine adraw_order [(0, false), (1, false), (2, false), (3, false), (4, false), (5, false), (6, false), (7, false), (8, false), (9, false), (10, false), (11, false), (12, false), (13, false), (14, false), (15, false), (16, false), (17, false), (18, false), (19, false), (20, false), (21, false), (22, false), (23, false), (24, false), (25, false), (26, false), (27, false), (28, false), (29, false), (30, false), (31, false), (32, false), (33, false), (34, false), (35, false), (36, false), (37, false), (38, false), (39, false), (40, false), (41, false), (42, false)] mixed (by kernel_rfl) (by kernel_rfl) (by kernel_rfl) (by with_reducible repeat (first | exact PF_retK | refine PF_thenK ?_ | refine PF_blockK ?_)) ?_
                  have hd9 : decide ((0 : Int) < ((g.length + 1 : Nat) : Int)) = true := decide_eq_true (by omega)
                  obtain ⟨w, tv, hx, g1, g2, g3, g4⟩ := hgu g.length (Nat.le_refl _)
                  have g2 := g2 rfl
                  subst g2
                  obtain ⟨U0, U1, U2, U3, U4⟩ := UV9.field hx
                  have IU := Rd.index UV9.rd underlying41 asz45 (q := .i64) (i := ((n + g.length : Nat) : Int)) (by omega) (by have := (List.getElem?_eq_some_iff.1 hx).1; omega)
                  simp only [Int.toNat_natCast] at IU
                  rw [show ((n + g.length : Nat) : Int) = (n : Int) + ((g.length + 1 : Nat) : Int) - 1 by omega] at IU
                  have w1 : IntKind.i64.wrap ((n : Int) + ((g.length + 1 : Nat) : Int) - 1) = (n : Int) + ((g.length + 1 : Nat) : Int) - 1 := IntWalk.i64_in _ (by omega)
                  have w3 : IntKind.i64.wrap (w.col + w.wd) = w.col + w.wd := IntWalk.i64_in _ (by omega)
                  have d10 : decide (¬ w.col + w.wd = b) = false := decide_eq_false (by simp [hu])
                  have d13 : decide (((g.length + 1 : Nat) : Int) = 0) = false := decide_eq_false (by omega)
                  have hdropn : us.drop (n + (g.length + 1)) = us' := by
                    rw [← List.drop_drop, husn, show g ++ w :: us' = (g ++ [w]) ++ us' by simp, List.drop_append_of_le_length (by simp), List.drop_of_length_le (by simp)]; rfl
                  by_cases hg0 : g = []
                  · have hgl1 : g.length + 1 = 1 := by rw [hg0]; rfl
                    have d11 : decide (¬ ((g.length + 1 : Nat) : Int) = 1) = false := decide_eq_false (by simp [hg0])
                    simp only [wk, wt, wl, ↓reduceIte, Nat.reduceEqDiff, Nat.reduceAdd, Nat.zero_add, not_false_eq_true, not_true_eq_false, dK_t, t0, t3, t5, t6, t7, t8, t9, t10, t11, t12, hlenU9, IU, U2, U3, A1, A2, hd9, w1, w3, d10, d11, d13, wat, intOf_int]
                    exact ⟨⟨K9, j + 1, n + (g.length + 1), b, by simp; omega, by simp, rfl, by omega, by omega, by omega, .inl (by rw [hdropn]; exact tq)⟩, by omega⟩
                  · have hg1 : 1 ≤ g.length := by cases g with
                      | nil => exact absurd rfl hg0
                      | cons _ _ => simp
                    have hfit : b - c ≤ cz := hw.resolve_left hg0
                    have d11 : decide (¬ ((g.length + 1 : Nat) : Int) = 1) = true := decide_eq_true (by omega)
                    have w4 : IntKind.i64.wrap (b - c) = b - c := IntWalk.i64_in _ (by omega)
                    have d12 : decide (cz < b - c) = false := decide_eq_false (by omega)
                    simp only [wk, wt, wl, ↓reduceIte, Nat.reduceEqDiff, Nat.reduceAdd, Nat.zero_add, not_false_eq_true, not_true_eq_false, dK_t, t0, t3, t5, t6, t7, t8, t9, t10, t11, t12, hlenU9, IU, U2, U3, A1, A2, hd9, w1, w3, w4, d10, d11, d12, d13, wat, LX V9, intOf_int]
                    exact ⟨⟨K9, j + 1, n + (g.length + 1), b, by simp; omega, by simp, rfl, by omega, by omega, by omega, .inl (by rw [hdropn]; exact tq)⟩, by omega⟩
                · have d7 : decide ((n : Int) + ((g.length + 1 : Nat) : Int) < (us.length : Int)) = false := decide_eq_false (by omega)
                  simp only [wk, wt, wl, ↓reduceIte, Nat.reduceEqDiff, Nat.reduceAdd, Nat.zero_add, not_false_eq_true, not_true_eq_false, t0, t3, t5, t6, t7, t8, t9, t10, t11, t12, hlenU9, d7]
                  refine adraw_order [(0, false), (1, false), (2, false), (3, false), (4, false), (5, false), (6, false), (7, false), (8, false), (9, false), (10, false), (11, false), (12, false), (13, false), (14, false), (15, false), (16, false), (17, false), (18, false), (19, false), (20, false), (21, false), (22, false), (23, false), (24, false), (25, false), (26, false), (27, false), (28, false), (29, false), (30, false), (31, false), (32, false), (33, false), (34, false), (35, false), (36, false), (37, false), (38, false), (39, false), (40, false), (41, false), (42, false)] mixed (by kernel_rfl) (by kernel_rfl) (by kernel_rfl) (by with_reducible repeat (first | exact PF_retK | refine PF_thenK ?_ | refine PF_blockK ?_)) ?_
                  have hd9 : decide ((0 : Int) < ((g.length + 1 : Nat) : Int)) = true := decide_eq_true (by omega)
                  obtain ⟨w, tv, hx, g1, g2, g3, g4⟩ := hgu g.length (Nat.le_refl _)
                  have g2 := g2 rfl
                  subst g2
                  obtain ⟨U0, U1, U2, U3, U4⟩ := UV9.field hx
                  have IU := Rd.index UV9.rd underlying41 asz45 (q := .i64) (i := ((n + g.length : Nat) : Int)) (by omega) (by have := (List.getElem?_eq_some_iff.1 hx).1; omega)
                  simp only [Int.toNat_natCast] at IU
                  rw [show ((n + g.length : Nat) : Int) = (n : Int) + ((g.length + 1 : Nat) : Int) - 1 by omega] at IU
                  have w1 : IntKind.i64.wrap ((n : Int) + ((g.length + 1 : Nat) : Int) - 1) = (n : Int) + ((g.length + 1 : Nat) : Int) - 1 := IntWalk.i64_in _ (by omega)
                  have w3 : IntKind.i64.wrap (w.col + w.wd) = w.col + w.wd := IntWalk.i64_in _ (by omega)
                  have d10 : decide (¬ w.col + w.wd = b) = false := decide_eq_false (by simp [hu])
                  have d13 : decide (((g.length + 1 : Nat) : Int) = 0) = false := decide_eq_false (by omega)
                  have hdropn : us.drop (n + (g.length + 1)) = us' := by
                    rw [← List.drop_drop, husn, show g ++ w :: us' = (g ++ [w]) ++ us' by simp, List.drop_append_of_le_length (by simp), List.drop_of_length_le (by simp)]; rfl
                  by_cases hg0 : g = []
                  · have hgl1 : g.length + 1 = 1 := by rw [hg0]; rfl
                    have d11 : decide (¬ ((g.length + 1 : Nat) : Int) = 1) = false := decide_eq_false (by simp [hg0])
                    simp only [wk, wt, wl, ↓reduceIte, Nat.reduceEqDiff, Nat.reduceAdd, Nat.zero_add, not_false_eq_true, not_true_eq_false, dK_t, t0, t3, t5, t6, t7, t8, t9, t10, t11, t12, hlenU9, IU, U2, U3, A1, A2, hd9, w1, w3, d10, d11, d13, wat, intOf_int]
                    exact ⟨⟨K9, j + 1, n + (g.length + 1), b, by simp; omega, by simp, rfl, by omega, by omega, by omega, .inl (by rw [hdropn]; exact tq)⟩, by omega⟩
                  · have hg1 : 1 ≤ g.length := by cases g with
                      | nil => exact absurd rfl hg0
                      | cons _ _ => simp
                    have hfit : b - c ≤ cz := hw.resolve_left hg0
                    have d11 : decide (¬ ((g.length + 1 : Nat) : Int) = 1) = true := decide_eq_true (by omega)
                    have w4 : IntKind.i64.wrap (b - c) = b - c := IntWalk.i64_in _ (by omega)
                    have d12 : decide (cz < b - c) = false := decide_eq_false (by omega)
                    simp only [wk, wt, wl, ↓reduceIte, Nat.reduceEqDiff, Nat.reduceAdd, Nat.zero_add, not_false_eq_true, not_true_eq_false, dK_t, t0, t3, t5, t6, t7, t8, t9, t10, t11, t12, hlenU9, IU, U2, U3, A1, A2, hd9, w1, w3, w4, d10, d11, d12, d13, wat, LX V9, intOf_int]
                    exact ⟨⟨K9, j + 1, n + (g.length + 1), b, by simp; omega, by simp, rfl, by omega, by omega, by omega, .inl (by rw [hdropn]; exact tq)⟩, by omega⟩
            · subst q3; subst q5
              rw [q4] at hp; simp at hp; subst hp
              simp only at hpc A1 A2 d5 d6
              have hp1 : ps.length = 1 := by rw [q4]; rfl
              subst q2
              have hu0 : us.length = 0 := by rw [q1]; rfl
              have d7 : decide (((0 : Nat) : Int) < (us.length : Int)) = false := decide_eq_false (by omega)
              have d7' : decide ((0 : Int) < (us.length : Int)) = false := decide_eq_false (by omega)
              refine W_loop (fun tm h' => h' = h9 ∧ tm 0 = v ∧ tm 3 = .pointer (some ⟨h.size, 0, none⟩) ∧ tm 5 = rv ∧ tm 7 = .int .i64 i ∧ tm 8 = ul ∧ tm 6 = .int .i64 ((base : Int) + ((0 : Nat) : Int)) ∧ tm 10 = .int .i64 0 ∧ tm 11 = .pointer (some ⟨h7.size, 0, none⟩) ∧ tm 9 = .int .i64 ((0 : Nat) : Int) ∧ tm 12 = .int .i64 0)
                (fun tm _ => 0) ⟨rfl, (by first | rfl | (simp only [wk, wt, wl, ↓reduceIte, Nat.reduceEqDiff, Nat.reduceAdd, Nat.zero_add, not_false_eq_true, not_true_eq_false]; done) | (simp only [wk, wt, wl, ↓reduceIte, Nat.reduceEqDiff, Nat.reduceAdd, Nat.zero_add, not_false_eq_true, not_true_eq_false]; rfl) | (simp only [wk, wt, wl, ↓reduceIte, Nat.reduceEqDiff, Nat.reduceAdd, Nat.zero_add, not_false_eq_true, not_true_eq_false, t0]; done) | (simp only [wk, wt, wl, ↓reduceIte, Nat.reduceEqDiff, Nat.reduceAdd, Nat.zero_add, not_false_eq_true, not_true_eq_false, t0]; rfl)), (by first | rfl | (simp only [wk, wt, wl, ↓reduceIte, Nat.reduceEqDiff, Nat.reduceAdd, Nat.zero_add, not_false_eq_true, not_true_eq_false]; done) | (simp only [wk, wt, wl, ↓reduceIte, Nat.reduceEqDiff, Nat.reduceAdd, Nat.zero_add, not_false_eq_true, not_true_eq_false]; rfl) | (simp only [wk, wt, wl, ↓reduceIte, Nat.reduceEqDiff, Nat.reduceAdd, Nat.zero_add, not_false_eq_true, not_true_eq_false, t3]; done) | (simp only [wk, wt, wl, ↓reduceIte, Nat.reduceEqDiff, Nat.reduceAdd, Nat.zero_add, not_false_eq_true, not_true_eq_false, t3]; rfl)), (by first | rfl | (simp only [wk, wt, wl, ↓reduceIte, Nat.reduceEqDiff, Nat.reduceAdd, Nat.zero_add, not_false_eq_true, not_true_eq_false]; done) | (simp only [wk, wt, wl, ↓reduceIte, Nat.reduceEqDiff, Nat.reduceAdd, Nat.zero_add, not_false_eq_true, not_true_eq_false]; rfl) | (simp only [wk, wt, wl, ↓reduceIte, Nat.reduceEqDiff, Nat.reduceAdd, Nat.zero_add, not_false_eq_true, not_true_eq_false, t5]; done) | (simp only [wk, wt, wl, ↓reduceIte, Nat.reduceEqDiff, Nat.reduceAdd, Nat.zero_add, not_false_eq_true, not_true_eq_false, t5]; rfl)), (by first | rfl | (simp only [wk, wt, wl, ↓reduceIte, Nat.reduceEqDiff, Nat.reduceAdd, Nat.zero_add, not_false_eq_true, not_true_eq_false]; done) | (simp only [wk, wt, wl, ↓reduceIte, Nat.reduceEqDiff, Nat.reduceAdd, Nat.zero_add, not_false_eq_true, not_true_eq_false]; rfl) | (simp only [wk, wt, wl, ↓reduceIte, Nat.reduceEqDiff, Nat.reduceAdd, Nat.zero_add, not_false_eq_true, not_true_eq_false, t7]; done) | (simp only [wk, wt, wl, ↓reduceIte, Nat.reduceEqDiff, Nat.reduceAdd, Nat.zero_add, not_false_eq_true, not_true_eq_false, t7]; rfl)), (by first | rfl | (simp only [wk, wt, wl, ↓reduceIte, Nat.reduceEqDiff, Nat.reduceAdd, Nat.zero_add, not_false_eq_true, not_true_eq_false]; done) | (simp only [wk, wt, wl, ↓reduceIte, Nat.reduceEqDiff, Nat.reduceAdd, Nat.zero_add, not_false_eq_true, not_true_eq_false]; rfl) | (simp only [wk, wt, wl, ↓reduceIte, Nat.reduceEqDiff, Nat.reduceAdd, Nat.zero_add, not_false_eq_true, not_true_eq_false, t8]; done) | (simp only [wk, wt, wl, ↓reduceIte, Nat.reduceEqDiff, Nat.reduceAdd, Nat.zero_add, not_false_eq_true, not_true_eq_false, t8]; rfl)), (by first | rfl | (simp only [wk, wt, wl, ↓reduceIte, Nat.reduceEqDiff, Nat.reduceAdd, Nat.zero_add, not_false_eq_true, not_true_eq_false]; done) | (simp only [wk, wt, wl, ↓reduceIte, Nat.reduceEqDiff, Nat.reduceAdd, Nat.zero_add, not_false_eq_true, not_true_eq_false]; rfl) | (simp only [wk, wt, wl, ↓reduceIte, Nat.reduceEqDiff, Nat.reduceAdd, Nat.zero_add, not_false_eq_true, not_true_eq_false, t6]; done) | (simp only [wk, wt, wl, ↓reduceIte, Nat.reduceEqDiff, Nat.reduceAdd, Nat.zero_add, not_false_eq_true, not_true_eq_false, t6]; rfl)), (by first | rfl | (simp only [wk, wt, wl, ↓reduceIte, Nat.reduceEqDiff, Nat.reduceAdd, Nat.zero_add, not_false_eq_true, not_true_eq_false]; done) | (simp only [wk, wt, wl, ↓reduceIte, Nat.reduceEqDiff, Nat.reduceAdd, Nat.zero_add, not_false_eq_true, not_true_eq_false]; rfl) | (simp only [wk, wt, wl, ↓reduceIte, Nat.reduceEqDiff, Nat.reduceAdd, Nat.zero_add, not_false_eq_true, not_true_eq_false, t10]; done) | (simp only [wk, wt, wl, ↓reduceIte, Nat.reduceEqDiff, Nat.reduceAdd, Nat.zero_add, not_false_eq_true, not_true_eq_false, t10]; rfl)), (by first | rfl | (simp only [wk, wt, wl, ↓reduceIte, Nat.reduceEqDiff, Nat.reduceAdd, Nat.zero_add, not_false_eq_true, not_true_eq_false]; done) | (simp only [wk, wt, wl, ↓reduceIte, Nat.reduceEqDiff, Nat.reduceAdd, Nat.zero_add, not_false_eq_true, not_true_eq_false]; rfl)), (by first | rfl | (simp only [wk, wt, wl, ↓reduceIte, Nat.reduceEqDiff, Nat.reduceAdd, Nat.zero_add, not_false_eq_true, not_true_eq_false]; done) | (simp only [wk, wt, wl, ↓reduceIte, Nat.reduceEqDiff, Nat.reduceAdd, Nat.zero_add, not_false_eq_true, not_true_eq_false]; rfl) | (simp only [wk, wt, wl, ↓reduceIte, Nat.reduceEqDiff, Nat.reduceAdd, Nat.zero_add, not_false_eq_true, not_true_eq_false, t9]; done) | (simp only [wk, wt, wl, ↓reduceIte, Nat.reduceEqDiff, Nat.reduceAdd, Nat.zero_add, not_false_eq_true, not_true_eq_false, t9]; rfl)), (by first | rfl | (simp only [wk, wt, wl, ↓reduceIte, Nat.reduceEqDiff, Nat.reduceAdd, Nat.zero_add, not_false_eq_true, not_true_eq_false]; done) | (simp only [wk, wt, wl, ↓reduceIte, Nat.reduceEqDiff, Nat.reduceAdd, Nat.zero_add, not_false_eq_true, not_true_eq_false]; rfl))⟩ ?_
              rintro tm hq ⟨rfl, t0, t3, t5, t7, t8, t6, t10, t11, t9, t12⟩
              simp only [wk, wt, wl, ↓reduceIte, Nat.reduceEqDiff, Nat.reduceAdd, Nat.zero_add, not_false_eq_true, not_true_eq_false]
              refine adraw_order [(0, false), (1, false), (2, false), (3, false), (4, false), (5, false), (6, false), (7, false), (8, false), (9, false), (10, false), (11, false), (12, false), (13, false)] mixed (by kernel_rfl) (by kernel_rfl) (by kernel_rfl) (by with_reducible repeat (first | exact PF_retK | refine PF_thenK ?_ | refine PF_blockK ?_)) ?_
              simp only [wk, wt, wl, ↓reduceIte, Nat.reduceEqDiff, Nat.reduceAdd, Nat.zero_add, not_false_eq_true, not_true_eq_false, t0, t3, t5, t6, t7, t8, t9, t10, t11, t12, hlenU9, d7]
              refine adraw_order [(0, false), (1, false), (2, false), (3, false), (4, false), (5, false), (6, false), (7, false), (8, false), (9, false), (10, false), (11, false), (12, false), (13, false), (14, false), (15, false), (16, false), (17, false), (18, false), (19, false), (20, false), (21, false), (22, false), (23, false), (24, false), (25, false), (26, false), (27, false), (28, false), (29, false), (30, false), (31, false), (32, false), (33, false), (34, false), (35, false), (36, false), (37, false), (38, false), (39, false), (40, false), (41, false), (42, false)] mixed (by kernel_rfl) (by kernel_rfl) (by kernel_rfl) (by with_reducible repeat (first | exact PF_retK | refine PF_thenK ?_ | refine PF_blockK ?_)) ?_
              have e1 : decide ((0 : Int) < 0) = false := rfl
              have e2 : decide (¬ (0 : Int) = 1) = true := rfl
              have e3 : decide ((0 : Int) = 0) = true := rfl
              have e4 : decide (cz < IntKind.i64.wrap (0 - 0)) = false := by rw [IntWalk.i64_in _ (by omega)]; exact decide_eq_false (by omega)
              simp only [wk, wt, wl, ↓reduceIte, Nat.reduceEqDiff, Nat.reduceAdd, Nat.zero_add, not_false_eq_true, not_true_eq_false, dK_t, t0, t3, t5, t6, t7, t8, t9, t10, t11, t12, hlenU9, A1, A2, LX V9, e1, e2, e3, e4, d7', wat, intOf_int]
              exact ⟨⟨K9, 1, 0, 0, by simp, rfl, rfl, by omega, by omega, Int.le_refl _, .inl (by rw [q1, q4]; exact .done)⟩, by omega⟩
          · have hjd : ps.drop j = [] := List.drop_of_length_le (by omega)
            have hje : j = ps.length := by omega
            have hnus : n = us.length := by
              rcases hst with q | ⟨_, _, q, q4, _⟩
              · rw [hjd] at q
                have hz : us.drop n = [] := by
                  generalize us.drop n = us' at q
                  cases q with
                  | done => rfl
                have := congrArg List.length hz
                simp at this; omega
              · rw [q4] at hje; simp at hje; omega
            have d9 : decide (¬ (n : Int) = (us.length : Int)) = false := decide_eq_false (by simp [hnus])
            have hfinal : (viewL ls cz tab true (A ++ [f])).length = base + ps.length := by rw [hvA, List.length_append, hbase, hro, List.length_map]
            by_cases hlt2 : base + j < (viewL ls cz tab true r).length
            · obtain ⟨y, hy⟩ : ∃ y, (viewL ls cz tab true r)[base + j]? = some y := ⟨_, List.getElem?_eq_getElem hlt2⟩
              have hyl := hend y (by rw [← hje]; exact hy)
              obtain ⟨B0, B1, B2, B3, B4⟩ := RR.flds RV7 hy
              have IX := Rd.index RV7 underlying28 asz37 (q := .i64) (i := ((base + j : Nat) : Int)) (by omega) (by omega)
              simp only [Int.toNat_natCast] at IX
              rw [show ((base + j : Nat) : Int) = (base : Int) + j by omega] at IX
              have d3 : decide ((base : Int) + j < ((viewL ls cz tab true r).length : Int)) = true := decide_eq_true (by omega)
              have d4 : decide (y.ln = i) = false := decide_eq_false (by omega)
              simp only [wk, wt, wl, ↓reduceIte, Nat.reduceEqDiff, Nat.reduceAdd, Nat.zero_add, not_false_eq_true, not_true_eq_false, t0, t3, t5, t6, t7, t8, t9, t10, hlenR7, hlenU7, d3, d4, IX, B0, d9, LX V7]
              refine (refNext_ok (x := i) (RS.keeps RF K07) (by have := (rightB_at (rightOr_right (l := l))).2.2; omega) (rightOr_near hn) (by omega)).use_pure ?_
              simp only [wk, wt, wl, ↓reduceIte, Nat.reduceEqDiff, Nat.reduceAdd, Nat.zero_add, not_false_eq_true, not_true_eq_false, t0, t3, t5, t6, t7, intOf_int]
              exact ⟨⟨K07, nextZ1 (rightOr l) i, A ++ [f], C', rfl, by rw [hfinal, ← hje]; simp, hrA, by omega, by omega, hrw', hhn⟩, by omega⟩
            · have d3 : decide ((base : Int) + j < ((viewL ls cz tab true r).length : Int)) = false := decide_eq_false (by omega)
              simp only [wk, wt, wl, ↓reduceIte, Nat.reduceEqDiff, Nat.reduceAdd, Nat.zero_add, not_false_eq_true, not_true_eq_false, t0, t3, t5, t6, t7, t8, t9, t10, hlenR7, hlenU7, d3, d9, LX V7]
              refine (refNext_ok (x := i) (RS.keeps RF K07) (by have := (rightB_at (rightOr_right (l := l))).2.2; omega) (rightOr_near hn) (by omega)).use_pure ?_
              simp only [wk, wt, wl, ↓reduceIte, Nat.reduceEqDiff, Nat.reduceAdd, Nat.zero_add, not_false_eq_true, not_true_eq_false, t0, t3, t5, t6, t7, intOf_int]
              exact ⟨⟨K07, nextZ1 (rightOr l) i, A ++ [f], C', rfl, by rw [hfinal, ← hje]; simp, hrA, by omega, by omega, hrw', hhn⟩, by omega⟩
      · have hCn : C = [] := by
          cases hrw with
          | done _ => rfl
          | step h _ => exact absurd h hd
        have RV' : RR h' rv _ := RS.keeps RVx K
        have hAr : A = r := by rw [hrc, hCn]; simp
        have d1 : decide (((viewL ls cz tab true A).length : Int) = (viewL ls cz tab true r).length) = true := decide_eq_true (by rw [hAr])
        simp only [wk, wt, wl, ↓reduceIte, Nat.reduceEqDiff, Nat.reduceAdd, Nat.zero_add, not_false_eq_true, not_true_eq_false, t0, t3, t5, t6, t7, RV'.len underlying28, d1]
        refine (awake_ok (G.keeps KK)).use ?_
        rintro _ h6 ⟨rfl, K6⟩
        simp only [wk, wt, wl, ↓reduceIte, Nat.reduceEqDiff, Nat.reduceAdd, Nat.zero_add, not_false_eq_true, not_true_eq_false]
        exact KK.trans K6
    | false =>
      have hro : rightOr l = [] := by unfold rightOr; rw [if_neg (by simp [hr])]
      obtain ⟨hx, ex, VX, CX, zx⟩ := V5.store1 (P := prog) (t := 23) (v := .slice none 0 0) (i := 0) (Ch.wf K5) asz23 (by simp) rfl
      simp only [List.set_cons_succ, List.set_cons_zero] at VX
      have K03 := K05.step CX fun b e => by omega
      have RVx : RR hx rv _ := Ch.rd CX RV fun b e e' => by have := hfr b e; have := V4.lt (Ch.wf C4); omega
      simp (disch := omega) only [wk, wt, wl, ↓reduceIte, Nat.reduceEqDiff, Nat.reduceAdd, Nat.zero_add, not_false_eq_true, not_true_eq_false, Bool.not_false, ex]
      have hlt0 := VX.lt (Ch.wf K03)
      have RF := (by rw [hro]; exact Rd.nil0 : FR hx (.slice none 0 0) (rightOr l))
      have LX := fun {hh : Heap} (V : Var hh h.size [.slice none 0 0, .int .i64 cz, .int .i64 tab, .bool true]) => And.intro (V.load1 (P := prog) (t := 23) underlying23 rfl (i := 0)) (And.intro (V.load1 (P := prog) (t := 3) underlying3 rfl (i := 1)) (V.load1 (P := prog) (t := 3) underlying3 rfl (i := 2)))
      simp only [List.getElem?_cons_succ, List.getElem?_cons_zero] at LX
      refine W_loop (fun tm h' => Keeps hx h' ∧ tm 0 = v ∧ tm 3 = .pointer (some ⟨h.size, 0, none⟩) ∧ tm 5 = rv ∧ ∃ (i : Int) (A C : List F), tm 7 = .int .i64 i ∧ tm 6 = .int .i64 (viewL ls cz tab true A).length ∧ r = A ++ C ∧ 0 ≤ i ∧ i ≤ 2199023255553 ∧ RowsR (rightOr l) ls.length i C ∧ (shownZ (rightOr l) i).1 = i)
        (fun tm _ => (ls.length - intOf (tm 7)).toNat) ⟨Keeps.refl (Ch.wf K03), (by first | rfl | (simp only [wk, wt, wl, ↓reduceIte, Nat.reduceEqDiff, Nat.reduceAdd, Nat.zero_add, not_false_eq_true, not_true_eq_false]; done) | (simp only [wk, wt, wl, ↓reduceIte, Nat.reduceEqDiff, Nat.reduceAdd, Nat.zero_add, not_false_eq_true, not_true_eq_false]; rfl)), (by first | rfl | (simp only [wk, wt, wl, ↓reduceIte, Nat.reduceEqDiff, Nat.reduceAdd, Nat.zero_add, not_false_eq_true, not_true_eq_false]; done) | (simp only [wk, wt, wl, ↓reduceIte, Nat.reduceEqDiff, Nat.reduceAdd, Nat.zero_add, not_false_eq_true, not_true_eq_false]; rfl)), (by first | rfl | (simp only [wk, wt, wl, ↓reduceIte, Nat.reduceEqDiff, Nat.reduceAdd, Nat.zero_add, not_false_eq_true, not_true_eq_false]; done) | (simp only [wk, wt, wl, ↓reduceIte, Nat.reduceEqDiff, Nat.reduceAdd, Nat.zero_add, not_false_eq_true, not_true_eq_false]; rfl)), 0, [], r, (by first | rfl | (simp only [wk, wt, wl, ↓reduceIte, Nat.reduceEqDiff, Nat.reduceAdd, Nat.zero_add, not_false_eq_true, not_true_eq_false]; done) | (simp only [wk, wt, wl, ↓reduceIte, Nat.reduceEqDiff, Nat.reduceAdd, Nat.zero_add, not_false_eq_true, not_true_eq_false]; rfl)), (by first | rfl | (simp only [wk, wt, wl, ↓reduceIte, Nat.reduceEqDiff, Nat.reduceAdd, Nat.zero_add, not_false_eq_true, not_true_eq_false]; done) | (simp only [wk, wt, wl, ↓reduceIte, Nat.reduceEqDiff, Nat.reduceAdd, Nat.zero_add, not_false_eq_true, not_true_eq_false]; rfl)), rfl, Int.le_refl _, by omega, hrows, hhead⟩ ?_
      rintro tm h' ⟨K, t0, t3, t5, i, A, C, t7, t6, hrc, hi0, hi2, hrw, hh⟩
      have KK := K03.trans K
      have T' := T.keeps KK
      simp only [wk, wt, wl, ↓reduceIte, Nat.reduceEqDiff, Nat.reduceAdd, Nat.zero_add, not_false_eq_true, not_true_eq_false, t0, t3, t5, t6, t7, T'.len]
      refine condK_dec (fun hd => ?_) (fun hd => ?_)
      · have V' := Keeps.var (Ch.wf K03) K VX
        have RV' : RR h' rv _ := RS.keeps RVx K
        have hrne : C ≠ [] := fun e => by subst e; cases hrw with | done g => exact g hd
        cases hrw with
        | done g => exact absurd rfl hrne
        | @step _ C' hlt hrw' =>
        obtain ⟨f, hf⟩ : ∃ f : F, f = ⟨i, (if (ls.length : Int) < nextZ1 (rightOr l) i then (ls.length : Int) else nextZ1 (rightOr l) i) - 1, (shutF (rightOr l) i).isSome⟩ := ⟨_, rfl⟩
        rw [← hf] at hrc
        have hfi : f.fr = i := by rw [hf]
        have hfc : f.cl = (shutF (rightOr l) i).isSome := by rw [hf]
        have hvl : viewL ls cz tab true r = viewL ls cz tab true A ++ (rowsOf ls cz tab true f ++ viewL ls cz tab true C') := by rw [hrc]; simp [viewL]
        have hvA : viewL ls cz tab true (A ++ [f]) = viewL ls cz tab true A ++ rowsOf ls cz tab true f := by simp [viewL]
        have hrA : r = (A ++ [f]) ++ C' := by rw [hrc]; simp
        have hnx := nextZ1_lt (rightOr l) i
        have hsi := shownZ_in (rightOr_near hn) (x := i) (by omega)
        have hnb : nextZ1 (rightOr l) i = (shownZ (rightOr l) i).2 + 1 := rfl
        have hhn : (shownZ (rightOr l) (nextZ1 (rightOr l) i)).1 = nextZ1 (rightOr l) i := head_next rightOr_right hh
        have hlenA : (viewL ls cz tab true A).length ≤ 40000000 := by
          have h1 := viewL_len HT (cols := cz) (tab := tab) (wrap := true) (r := A)
          have h2 : A.length ≤ r.length := by rw [hrc]; simp
          omega
        have hlenR := RV'.len underlying28
        have hln : ∀ y, y ∈ rowsOf ls cz tab true f → y.ln = i := fun y hy => (rowsOf_mem hy).1.trans hfi
        have hC' : ∀ y, y ∈ viewL ls cz tab true C' → i < y.ln := fun y hy => by
          obtain ⟨g, hg, hy⟩ := List.mem_flatMap.1 hy
          have := rowsR_in hrw' (by omega) g hg
          rw [(rowsOf_mem hy).1]; omega
        cases hcl : f.cl with
        | true =>
          have hro := rowsOf_cl (ls := ls) (cols := cz) (tab := tab) (wrap := true) hcl
          have hx0 : (viewL ls cz tab true r)[(viewL ls cz tab true A).length]? = some ⟨f.fr, 0, f.to + 1 - f.fr, true⟩ := by
            have := at_right (X := viewL ls cz tab true A) (Y := rowsOf ls cz tab true f ++ viewL ls cz tab true C') (j := 0)
            rw [hvl]; rw [Nat.add_zero] at this; rw [this, hro]; rfl
          have hatl := (List.getElem?_eq_some_iff.1 hx0).1
          obtain ⟨B0, B1, B2, B3, B4⟩ := RR.flds RV' hx0
          simp only [hfi] at B0 B1 B2 B3 B4
          have IX := Rd.index RV' underlying28 asz37 (q := .i64) (i := ((viewL ls cz tab true A).length : Int)) (by omega) (by omega)
          simp only [Int.toNat_natCast] at IX
          have d1 : decide (((viewL ls cz tab true r).length : Int) ≤ (viewL ls cz tab true A).length) = false := decide_eq_false (by omega)
          have d2 : decide (¬ i = i) = false := decide_eq_false (by simp)
          have wi : IntKind.i64.wrap (i + 1) = i + 1 := IntWalk.i64_in _ (by omega)
          have wat : IntKind.i64.wrap (((viewL ls cz tab true A).length : Int) + 1) = ((viewL ls cz tab true A).length : Int) + 1 := IntWalk.i64_in _ (by omega)
          simp only [wk, wt, wl, ↓reduceIte, Nat.reduceEqDiff, Nat.reduceAdd, Nat.zero_add, not_false_eq_true, not_true_eq_false, t0, t3, t5, t6, t7, hlenR, d1, d2, IX, B0, B3, LX V']
          refine (refNext_ok (x := i) (RS.keeps RF K) (by have := (rightB_at (rightOr_right (l := l))).2.2; omega) (rightOr_near hn) (by omega)).use_pure ?_
          have d3 : decide ((shownZ (rightOr l) i).2 + 1 = i + 1) = false := decide_eq_false (next_shut rightOr_right hh (by rw [← hfc]; exact hcl))
          simp only [wk, wt, wl, ↓reduceIte, Nat.reduceEqDiff, Nat.reduceAdd, Nat.zero_add, not_false_eq_true, not_true_eq_false, t0, t3, t5, t6, t7, wi, wat, d3, LX V']
          refine (refNext_ok (x := i) (RS.keeps RF K) (by have := (rightB_at (rightOr_right (l := l))).2.2; omega) (rightOr_near hn) (by omega)).use_pure ?_
          simp only [wk, wt, wl, ↓reduceIte, Nat.reduceEqDiff, Nat.reduceAdd, Nat.zero_add, not_false_eq_true, not_true_eq_false, t0, t3, t5, t6, t7, intOf_int]
          refine ⟨⟨K, nextZ1 (rightOr l) i, A ++ [f], C', rfl, ?_, hrA, by omega, by omega, hrw', hhn⟩, by omega⟩
          rw [hvA, hro]; simp
        | false =>
          obtain ⟨k, xs, hfk, hkl, hxs, hgd, hrn, hxl⟩ := HT.get (f := f) (by omega) (by omega)
          obtain ⟨xv, X1, X2⟩ := T'.at hxs
          have hik : i = (k : Int) := by omega
          have hro := rowsOf_op (ls := ls) (cols := cz) (tab := tab) (wrap := true) hcl
          rw [hgd, hcz2, hfi] at hro
          obtain ⟨ps, hps⟩ : ∃ ps, rowsG cz true (unitsL xs tab) 0 0 = ps := ⟨_, rfl⟩
          rw [hps] at hro
          have hparts := rowsL_parts (line := xs) (tab := tab) (cols := cz)
          rw [hps] at hparts
          have hpl : ps.length ≤ 10002 := by
            have := rowsOf_len HT (cols := cz) (tab := tab) (wrap := true) (f := f)
            rw [hro, List.length_map] at this; exact this
          have hps0 : ps ≠ [] := by rw [← hps]; exact rowsG_ne
          have hrow : ∀ (j : Nat) p, ps[j]? = some p → (viewL ls cz tab true r)[(viewL ls cz tab true A).length + j]? = some ⟨i, p.1, p.2, false⟩ := fun j p hp => by
            have hj : j < (rowsOf ls cz tab true f).length := by rw [hro, List.length_map]; exact (List.getElem?_eq_some_iff.1 hp).1
            rw [hvl, at_right, List.getElem?_append_left hj, hro, List.getElem?_map, hp]; rfl
          have hend : ∀ y, (viewL ls cz tab true r)[(viewL ls cz tab true A).length + ps.length]? = some y → i < y.ln := fun y hy => by
            have hpl2 : (rowsOf ls cz tab true f).length = ps.length := by rw [hro, List.length_map]
            rw [hvl, at_right, List.getElem?_append_right (by omega)] at hy
            exact hC' y (List.mem_of_getElem? hy)
          obtain ⟨base, hbase⟩ : ∃ base, (viewL ls cz tab true A).length = base := ⟨_, rfl⟩
          rw [hbase] at hrow hend hlenA t6
          obtain ⟨us, hus⟩ : ∃ us, unitsL xs tab = us := ⟨_, rfl⟩
          rw [hus] at hparts
          have huok := unitsL_ok (line := xs) (tab := tab)
          rw [hus] at huok
          have hul := huok.len
          have hcol1 := huok.col1
          obtain ⟨p0, hp0⟩ : ∃ p, ps[0]? = some p := by
            cases ps with
            | nil => exact absurd rfl hps0
            | cons p _ => exact ⟨p, rfl⟩
          have hx0 := hrow 0 p0 hp0
          rw [Nat.add_zero] at hx0
          have hatl := (List.getElem?_eq_some_iff.1 hx0).1
          obtain ⟨B0, B1, B2, B3, B4⟩ := RR.flds RV' hx0
          simp only at B0 B1 B2 B3 B4
          have IX := Rd.index RV' underlying28 asz37 (q := .i64) (i := (base : Int)) (by omega) (by omega)
          simp only [Int.toNat_natCast] at IX
          have d1 : decide (((viewL ls cz tab true r).length : Int) ≤ (base : Int)) = false := decide_eq_false (by omega)
          have d2 : decide (¬ i = i) = false := decide_eq_false (by simp)
          have IT := T'.index hkl
          rw [← hik] at IT
          simp only [wk, wt, wl, ↓reduceIte, Nat.reduceEqDiff, Nat.reduceAdd, Nat.zero_add, not_false_eq_true, not_true_eq_false, t0, t3, t5, t6, t7, hlenR, d1, d2, IX, B0, B3]
          refine adraw_order [(0, false), (1, false), (2, false), (3, false), (4, false), (5, false), (6, true), (7, false)] mixed (by kernel_rfl) (by kernel_rfl) (by kernel_rfl) (by with_reducible repeat (first | exact PF_retK | refine PF_thenK ?_ | refine PF_blockK ?_)) ?_
          simp only [wk, wt, wl, ↓reduceIte, Nat.reduceEqDiff, Nat.reduceAdd, Nat.zero_add, not_false_eq_true, not_true_eq_false, dK_t, t0, t3, t5, t6, t7, IT, X1, LX V']
          refine (refUnits_ok (tab := tab) X2 hrn hxl).use ?_
          rintro ul h6 ⟨uv, hu, UV, K6⟩
          rw [hus] at hu
          have hu' := hu
          have huvl : uv.length = us.length := by rw [← hu]; simp
          have K06 := K.trans K6
          have KK6 := K03.trans K06
          simp only [wk, wt, wl, ↓reduceIte, Nat.reduceEqDiff, Nat.reduceAdd, Nat.zero_add, not_false_eq_true, not_true_eq_false, dK_t, t0, t3, t5, t6, t7]
          refine ⟨K6.reads (Ch.wf K), ?_⟩
          refine W_loop (fun tm h' => Keeps h6 h' ∧ tm 0 = v ∧ tm 3 = .pointer (some ⟨h.size, 0, none⟩) ∧ tm 5 = rv ∧ tm 7 = .int .i64 i ∧ tm 8 = ul ∧ ∃ (j n : Nat) (c : Int), tm 6 = .int .i64 ((base : Int) + j) ∧ tm 9 = .int .i64 n ∧ tm 10 = .int .i64 c ∧ j ≤ ps.length ∧ n ≤ us.length ∧ 0 ≤ c ∧
              (Parts cz c (us.drop n) (ps.drop j) ∨ us = [] ∧ n = 0 ∧ j = 0 ∧ ps = [(0, 0)] ∧ c = 0)) (fun tm _ => ((base : Int) + ps.length - intOf (tm 6)).toNat)
            ⟨Keeps.refl (Ch.wf K6), (by first | rfl | (simp only [wk, wt, wl, ↓reduceIte, Nat.reduceEqDiff, Nat.reduceAdd, Nat.zero_add, not_false_eq_true, not_true_eq_false]; done) | (simp only [wk, wt, wl, ↓reduceIte, Nat.reduceEqDiff, Nat.reduceAdd, Nat.zero_add, not_false_eq_true, not_true_eq_false]; rfl) | (simp only [wk, wt, wl, ↓reduceIte, Nat.reduceEqDiff, Nat.reduceAdd, Nat.zero_add, not_false_eq_true, not_true_eq_false, t0]; done) | (simp only [wk, wt, wl, ↓reduceIte, Nat.reduceEqDiff, Nat.reduceAdd, Nat.zero_add, not_false_eq_true, not_true_eq_false, t0]; rfl)), (by first | rfl | (simp only [wk, wt, wl, ↓reduceIte, Nat.reduceEqDiff, Nat.reduceAdd, Nat.zero_add, not_false_eq_true, not_true_eq_false]; done) | (simp only [wk, wt, wl, ↓reduceIte, Nat.reduceEqDiff, Nat.reduceAdd, Nat.zero_add, not_false_eq_true, not_true_eq_false]; rfl) | (simp only [wk, wt, wl, ↓reduceIte, Nat.reduceEqDiff, Nat.reduceAdd, Nat.zero_add, not_false_eq_true, not_true_eq_false, t3]; done) | (simp only [wk, wt, wl, ↓reduceIte, Nat.reduceEqDiff, Nat.reduceAdd, Nat.zero_add, not_false_eq_true, not_true_eq_false, t3]; rfl)), (by first | rfl | (simp only [wk, wt, wl, ↓reduceIte, Nat.reduceEqDiff, Nat.reduceAdd, Nat.zero_add, not_false_eq_true, not_true_eq_false]; done) | (simp only [wk, wt, wl, ↓reduceIte, Nat.reduceEqDiff, Nat.reduceAdd, Nat.zero_add, not_false_eq_true, not_true_eq_false]; rfl) | (simp only [wk, wt, wl, ↓reduceIte, Nat.reduceEqDiff, Nat.reduceAdd, Nat.zero_add, not_false_eq_true, not_true_eq_false, t5]; done) | (simp only [wk, wt, wl, ↓reduceIte, Nat.reduceEqDiff, Nat.reduceAdd, Nat.zero_add, not_false_eq_true, not_true_eq_false, t5]; rfl)), (by first | rfl | (simp only [wk, wt, wl, ↓reduceIte, Nat.reduceEqDiff, Nat.reduceAdd, Nat.zero_add, not_false_eq_true, not_true_eq_false]; done) | (simp only [wk, wt, wl, ↓reduceIte, Nat.reduceEqDiff, Nat.reduceAdd, Nat.zero_add, not_false_eq_true, not_true_eq_false]; rfl) | (simp only [wk, wt, wl, ↓reduceIte, Nat.reduceEqDiff, Nat.reduceAdd, Nat.zero_add, not_false_eq_true, not_true_eq_false, t7]; done) | (simp only [wk, wt, wl, ↓reduceIte, Nat.reduceEqDiff, Nat.reduceAdd, Nat.zero_add, not_false_eq_true, not_true_eq_false, t7]; rfl)), (by first | rfl | (simp only [wk, wt, wl, ↓reduceIte, Nat.reduceEqDiff, Nat.reduceAdd, Nat.zero_add, not_false_eq_true, not_true_eq_false]; done) | (simp only [wk, wt, wl, ↓reduceIte, Nat.reduceEqDiff, Nat.reduceAdd, Nat.zero_add, not_false_eq_true, not_true_eq_false]; rfl)), 0, 0, 0, (show _ = Value.int .i64 (base : Int) from (by first | rfl | (simp only [wk, wt, wl, ↓reduceIte, Nat.reduceEqDiff, Nat.reduceAdd, Nat.zero_add, not_false_eq_true, not_true_eq_false]; done) | (simp only [wk, wt, wl, ↓reduceIte, Nat.reduceEqDiff, Nat.reduceAdd, Nat.zero_add, not_false_eq_true, not_true_eq_false]; rfl) | (simp only [wk, wt, wl, ↓reduceIte, Nat.reduceEqDiff, Nat.reduceAdd, Nat.zero_add, not_false_eq_true, not_true_eq_false, t6]; done) | (simp only [wk, wt, wl, ↓reduceIte, Nat.reduceEqDiff, Nat.reduceAdd, Nat.zero_add, not_false_eq_true, not_true_eq_false, t6]; rfl))).trans (by simp), (by first | rfl | (simp only [wk, wt, wl, ↓reduceIte, Nat.reduceEqDiff, Nat.reduceAdd, Nat.zero_add, not_false_eq_true, not_true_eq_false]; done) | (simp only [wk, wt, wl, ↓reduceIte, Nat.reduceEqDiff, Nat.reduceAdd, Nat.zero_add, not_false_eq_true, not_true_eq_false]; rfl)), (by first | rfl | (simp only [wk, wt, wl, ↓reduceIte, Nat.reduceEqDiff, Nat.reduceAdd, Nat.zero_add, not_false_eq_true, not_true_eq_false]; done) | (simp only [wk, wt, wl, ↓reduceIte, Nat.reduceEqDiff, Nat.reduceAdd, Nat.zero_add, not_false_eq_true, not_true_eq_false]; rfl)), by omega, by omega, Int.le_refl _, by
              rcases hparts with q | ⟨q1, q2, _⟩
              · exact .inl q
              · exact .inr ⟨q1, rfl, rfl, q2, rfl⟩⟩ ?_
          rintro tm h7 ⟨K7, t0, t3, t5, t7, t8, j, n, c, t6, t9, t10, hj, hnl, hc0, hst⟩
          have K07 := K06.trans K7
          have RV7 : RR h7 rv _ := RS.keeps RVx K07
          have UV7 := UV.keeps K7
          have hlenR7 := RV7.len underlying28
          have hlenU7 := UV7.rd.len underlying41
          rw [huvl] at hlenU7
          have V7 := Keeps.var (Ch.wf K03) K07 VX
          simp only [wk, wt, wl, ↓reduceIte, Nat.reduceEqDiff, Nat.reduceAdd, Nat.zero_add, not_false_eq_true, not_true_eq_false, t0, t3, t5, t6, t7, t8, t9, t10, hlenR7]
          by_cases hjl : j < ps.length
          · obtain ⟨p, hp⟩ : ∃ p, ps[j]? = some p := ⟨ps[j], List.getElem?_eq_getElem hjl⟩
            have hxj := hrow j p hp
            have hjt := (List.getElem?_eq_some_iff.1 hxj).1
            have hdr := dropAt hp
            obtain ⟨B0, B1, B2, B3, B4⟩ := RR.flds RV7 hxj
            simp only at B0 B1 B2 B3 B4
            have IX := Rd.index RV7 underlying28 asz37 (q := .i64) (i := ((base + j : Nat) : Int)) (by omega) (by omega)
            simp only [Int.toNat_natCast] at IX
            have ecast : ((base + j : Nat) : Int) = (base : Int) + j := by omega
            rw [ecast] at IX
            have d3 : decide ((base : Int) + j < ((viewL ls cz tab true r).length : Int)) = true := decide_eq_true (by omega)
            have d4 : decide (i = i) = true := decide_eq_true rfl
            simp only [wk, wt, wl, ↓reduceIte, Nat.reduceEqDiff, Nat.reduceAdd, Nat.zero_add, not_false_eq_true, not_true_eq_false, t0, t3, t5, t6, t7, t8, t9, t10, hlenR7, d3, d4, IX, B0, B4]
            have N8 := Keeps.new (Ch.wf K7) 37 [Value.int IntKind.i64 0, Value.int IntKind.i64 0, Value.int IntKind.i64 0, Value.bool false]
            have X8 := Var.new (e := 37) (Ch.wf K7) (cs := [Value.int IntKind.i64 0, Value.int IntKind.i64 0, Value.int IntKind.i64 0, Value.bool false])
            obtain ⟨h9, e9, Vf, C9, z9⟩ := X8.store (P := prog) (t := 37) (v := .agg #[.int .i64 i, .int .i64 p.1, .int .i64 p.2, .bool false]) (i := 0) (Ch.wf N8) asz37 (by simp [Value.cells]) (by simp [Value.cells, one])
            rw [e9]; clear e9
            simp only [Value.cells, over_all (xs := [Value.int IntKind.i64 0, Value.int IntKind.i64 0, Value.int IntKind.i64 0, Value.bool false]) (vs := [.int .i64 i, .int .i64 p.1, .int .i64 p.2, .bool false]) rfl] at Vf
            have K19 := N8.step C9 (fun b hb => by omega)
            clear N8 X8 C9
            have K9 := K7.trans K19
            have V9 := Keeps.var (Ch.wf K7) K19 V7
            have UV9 := UV7.keeps K19
            have hlenU9 := UV9.rd.len underlying41
            rw [huvl] at hlenU9
            have A1 := Vf.load1 (P := prog) (t := 3) underlying3 rfl (i := 1)
            have A2 := Vf.load1 (P := prog) (t := 3) underlying3 rfl (i := 2)
            simp only [List.getElem?_cons_succ, List.getElem?_cons_zero] at A1 A2
            have wat : IntKind.i64.wrap ((base : Int) + j + 1) = (base : Int) + j + 1 := IntWalk.i64_in _ (by omega)
            have hpc : p.1 = c ∧ c ≤ p.2 := by
              rcases hst with q | ⟨_, _, e0, q, rfl⟩
              · rw [hdr] at q
                generalize us.drop n = us' at q
                cases q with
                | row hc _ _ _ _ _ => exact ⟨rfl, hc⟩
              · subst e0; rw [q] at hp; simp at hp; subst hp; exact ⟨rfl, by simp⟩
            have d5 : decide (¬ p.1 = c) = false := decide_eq_false (by simp [hpc.1])
            have d6 : decide (p.2 < p.1) = false := decide_eq_false (by omega)
            simp only [wk, wt, wl, ↓reduceIte, Nat.reduceEqDiff, Nat.reduceAdd, Nat.zero_add, not_false_eq_true, not_true_eq_false, t0, t3, t5, t6, t7, t8, t9, t10, A1, A2, d5, d6]
            rcases hst with q | ⟨q1, q2, q3, q4, q5⟩
            · rw [hdr] at q
              obtain ⟨usn, husn⟩ : ∃ usn, us.drop n = usn := ⟨_, rfl⟩
              rw [husn] at q
              obtain ⟨a, b⟩ := p
              simp only at hpc d5 d6 A1 A2 q
              cases q with
              | @row _ _ g us' u ps' hc hg hu hw hr tq =>
              have hgl : n + g.length + 1 ≤ us.length := by
                have := congrArg List.length husn
                simp at this; omega
              have hgu : ∀ (m : Nat), m ≤ g.length → ∃ w tv, uv[n + m]? = some (w, tv) ∧ w.col < b ∧ (m = g.length → w = u) ∧ 0 ≤ w.col ∧ w.col + w.wd ≤ 640000 := fun m hm => by
                have hlt : n + m < uv.length := by omega
                obtain ⟨⟨w, tv⟩, hx⟩ : ∃ x, uv[n + m]? = some x := ⟨uv[n + m], List.getElem?_eq_getElem hlt⟩
                have hw' : us[n + m]? = some w := by rw [← hu', List.getElem?_map, hx]; rfl
                have h2 : (g ++ u :: us')[m]? = some w := by rw [← husn, List.getElem?_drop]; exact hw'
                have hb2 := huok.each w (List.mem_of_getElem? hw')
                refine ⟨w, tv, hx, ?_, fun e => ?_, by omega, by omega⟩
                · rcases Nat.lt_or_eq_of_le hm with q | q
                  · rw [List.getElem?_append_left q] at h2
                    exact hg w (List.mem_append.2 (.inl (List.mem_of_getElem? h2)))
                  · subst q; rw [at_mid] at h2; cases h2; exact hg u (by simp)
                · subst e; rw [at_mid] at h2; cases h2; rfl
              have hgn : ∀ w tv, uv[n + (g.length + 1)]? = some (w, tv) → b ≤ w.col := fun w tv hx => by
                have hw' : us[n + (g.length + 1)]? = some w := by rw [← hu', List.getElem?_map, hx]; rfl
                have h2 : (g ++ u :: us')[g.length + 1]? = some w := by rw [← husn, List.getElem?_drop]; exact hw'
                exact hr w (at_post (Nat.lt_succ_self _) h2)
              refine W_loop (fun tm h' => h' = h9 ∧ tm 0 = v ∧ tm 3 = .pointer (some ⟨h.size, 0, none⟩) ∧ tm 5 = rv ∧ tm 7 = .int .i64 i ∧ tm 8 = ul ∧ tm 6 = .int .i64 ((base : Int) + j) ∧ tm 10 = .int .i64 c ∧ tm 11 = .pointer (some ⟨h7.size, 0, none⟩) ∧ ∃ m : Nat, tm 9 = .int .i64 ((n : Int) + m) ∧ tm 12 = .int .i64 m ∧ m ≤ g.length + 1)
                (fun tm _ => (g.length + 1 - intOf (tm 12)).toNat) ⟨rfl, (by first | rfl | (simp only [wk, wt, wl, ↓reduceIte, Nat.reduceEqDiff, Nat.reduceAdd, Nat.zero_add, not_false_eq_true, not_true_eq_false]; done) | (simp only [wk, wt, wl, ↓reduceIte, Nat.reduceEqDiff, Nat.reduceAdd, Nat.zero_add, not_false_eq_true, not_true_eq_false]; rfl) | (simp only [wk, wt, wl, ↓reduceIte, Nat.reduceEqDiff, Nat.reduceAdd, Nat.zero_add, not_false_eq_true, not_true_eq_false, t0]; done) | (simp only [wk, wt, wl, ↓reduceIte, Nat.reduceEqDiff, Nat.reduceAdd, Nat.zero_add, not_false_eq_true, not_true_eq_false, t0]; rfl)), (by first | rfl | (simp only [wk, wt, wl, ↓reduceIte, Nat.reduceEqDiff, Nat.reduceAdd, Nat.zero_add, not_false_eq_true, not_true_eq_false]; done) | (simp only [wk, wt, wl, ↓reduceIte, Nat.reduceEqDiff, Nat.reduceAdd, Nat.zero_add, not_false_eq_true, not_true_eq_false]; rfl) | (simp only [wk, wt, wl, ↓reduceIte, Nat.reduceEqDiff, Nat.reduceAdd, Nat.zero_add, not_false_eq_true, not_true_eq_false, t3]; done) | (simp only [wk, wt, wl, ↓reduceIte, Nat.reduceEqDiff, Nat.reduceAdd, Nat.zero_add, not_false_eq_true, not_true_eq_false, t3]; rfl)), (by first | rfl | (simp only [wk, wt, wl, ↓reduceIte, Nat.reduceEqDiff, Nat.reduceAdd, Nat.zero_add, not_false_eq_true, not_true_eq_false]; done) | (simp only [wk, wt, wl, ↓reduceIte, Nat.reduceEqDiff, Nat.reduceAdd, Nat.zero_add, not_false_eq_true, not_true_eq_false]; rfl) | (simp only [wk, wt, wl, ↓reduceIte, Nat.reduceEqDiff, Nat.reduceAdd, Nat.zero_add, not_false_eq_true, not_true_eq_false, t5]; done) | (simp only [wk, wt, wl, ↓reduceIte, Nat.reduceEqDiff, Nat.reduceAdd, Nat.zero_add, not_false_eq_true, not_true_eq_false, t5]; rfl)), (by first | rfl | (simp only [wk, wt, wl, ↓reduceIte, Nat.reduceEqDiff, Nat.reduceAdd, Nat.zero_add, not_false_eq_true, not_true_eq_false]; done) | (simp only [wk, wt, wl, ↓reduceIte, Nat.reduceEqDiff, Nat.reduceAdd, Nat.zero_add, not_false_eq_true, not_true_eq_false]; rfl) | (simp only [wk, wt, wl, ↓reduceIte, Nat.reduceEqDiff, Nat.reduceAdd, Nat.zero_add, not_false_eq_true, not_true_eq_false, t7]; done) | (simp only [wk, wt, wl, ↓reduceIte, Nat.reduceEqDiff, Nat.reduceAdd, Nat.zero_add, not_false_eq_true, not_true_eq_false, t7]; rfl)), (by first | rfl | (simp only [wk, wt, wl, ↓reduceIte, Nat.reduceEqDiff, Nat.reduceAdd, Nat.zero_add, not_false_eq_true, not_true_eq_false]; done) | (simp only [wk, wt, wl, ↓reduceIte, Nat.reduceEqDiff, Nat.reduceAdd, Nat.zero_add, not_false_eq_true, not_true_eq_false]; rfl) | (simp only [wk, wt, wl, ↓reduceIte, Nat.reduceEqDiff, Nat.reduceAdd, Nat.zero_add, not_false_eq_true, not_true_eq_false, t8]; done) | (simp only [wk, wt, wl, ↓reduceIte, Nat.reduceEqDiff, Nat.reduceAdd, Nat.zero_add, not_false_eq_true, not_true_eq_false, t8]; rfl)), (by first | rfl | (simp only [wk, wt, wl, ↓reduceIte, Nat.reduceEqDiff, Nat.reduceAdd, Nat.zero_add, not_false_eq_true, not_true_eq_false]; done) | (simp only [wk, wt, wl, ↓reduceIte, Nat.reduceEqDiff, Nat.reduceAdd, Nat.zero_add, not_false_eq_true, not_true_eq_false]; rfl) | (simp only [wk, wt, wl, ↓reduceIte, Nat.reduceEqDiff, Nat.reduceAdd, Nat.zero_add, not_false_eq_true, not_true_eq_false, t6]; done) | (simp only [wk, wt, wl, ↓reduceIte, Nat.reduceEqDiff, Nat.reduceAdd, Nat.zero_add, not_false_eq_true, not_true_eq_false, t6]; rfl)), (by first | rfl | (simp only [wk, wt, wl, ↓reduceIte, Nat.reduceEqDiff, Nat.reduceAdd, Nat.zero_add, not_false_eq_true, not_true_eq_false]; done) | (simp only [wk, wt, wl, ↓reduceIte, Nat.reduceEqDiff, Nat.reduceAdd, Nat.zero_add, not_false_eq_true, not_true_eq_false]; rfl) | (simp only [wk, wt, wl, ↓reduceIte, Nat.reduceEqDiff, Nat.reduceAdd, Nat.zero_add, not_false_eq_true, not_true_eq_false, t10]; done) | (simp only [wk, wt, wl, ↓reduceIte, Nat.reduceEqDiff, Nat.reduceAdd, Nat.zero_add, not_false_eq_true, not_true_eq_false, t10]; rfl)), (by first | rfl | (simp only [wk, wt, wl, ↓reduceIte, Nat.reduceEqDiff, Nat.reduceAdd, Nat.zero_add, not_false_eq_true, not_true_eq_false]; done) | (simp only [wk, wt, wl, ↓reduceIte, Nat.reduceEqDiff, Nat.reduceAdd, Nat.zero_add, not_false_eq_true, not_true_eq_false]; rfl)), 0, (show _ = Value.int .i64 (n : Int) from (by first | rfl | (simp only [wk, wt, wl, ↓reduceIte, Nat.reduceEqDiff, Nat.reduceAdd, Nat.zero_add, not_false_eq_true, not_true_eq_false]; done) | (simp only [wk, wt, wl, ↓reduceIte, Nat.reduceEqDiff, Nat.reduceAdd, Nat.zero_add, not_false_eq_true, not_true_eq_false]; rfl) | (simp only [wk, wt, wl, ↓reduceIte, Nat.reduceEqDiff, Nat.reduceAdd, Nat.zero_add, not_false_eq_true, not_true_eq_false, t9]; done) | (simp only [wk, wt, wl, ↓reduceIte, Nat.reduceEqDiff, Nat.reduceAdd, Nat.zero_add, not_false_eq_true, not_true_eq_false, t9]; rfl))).trans (by simp), (by first | rfl | (simp only [wk, wt, wl, ↓reduceIte, Nat.reduceEqDiff, Nat.reduceAdd, Nat.zero_add, not_false_eq_true, not_true_eq_false]; done) | (simp only [wk, wt, wl, ↓reduceIte, Nat.reduceEqDiff, Nat.reduceAdd, Nat.zero_add, not_false_eq_true, not_true_eq_false]; rfl)), by omega⟩ ?_
              rintro tm hq ⟨rfl, t0, t3, t5, t7, t8, t6, t10, t11, m, t9, t12, hm⟩
              simp only [wk, wt, wl, ↓reduceIte, Nat.reduceEqDiff, Nat.reduceAdd, Nat.zero_add, not_false_eq_true, not_true_eq_false]
              refine adraw_order [(0, false), (1, false), (2, false), (3, false), (4, false), (5, false), (6, false), (7, false), (8, false), (9, false), (10, false), (11, false), (12, false), (13, false)] mixed (by kernel_rfl) (by kernel_rfl) (by kernel_rfl) (by with_reducible repeat (first | exact PF_retK | refine PF_thenK ?_ | refine PF_blockK ?_)) ?_
              by_cases hml : m ≤ g.length
              · obtain ⟨w, tv, hx, g1, g2, g3, g4⟩ := hgu m hml
                obtain ⟨U0, U1, U2, U3, U4⟩ := UV9.field hx
                have IU := Rd.index UV9.rd underlying41 asz45 (q := .i64) (i := ((n + m : Nat) : Int)) (by omega) (by omega)
                simp only [Int.toNat_natCast] at IU
                rw [show ((n + m : Nat) : Int) = (n : Int) + m by omega] at IU
                have d7 : decide ((n : Int) + m < (us.length : Int)) = true := decide_eq_true (by omega)
                have d8 := decide_eq_true g1
                have w1 : IntKind.i64.wrap ((n : Int) + m + 1) = (n : Int) + m + 1 := IntWalk.i64_in _ (by omega)
                have w2 : IntKind.i64.wrap ((m : Int) + 1) = (m : Int) + 1 := IntWalk.i64_in _ (by omega)
                simp only [wk, wt, wl, ↓reduceIte, Nat.reduceEqDiff, Nat.reduceAdd, Nat.zero_add, not_false_eq_true, not_true_eq_false, t0, t3, t5, t6, t7, t8, t9, t10, t11, t12, hlenU9, IU, U2, A2, d7, d8, w1, w2, intOf_int]
                exact ⟨⟨m + 1, by simp; omega, by simp, by omega⟩, by omega⟩
              · have hme : m = g.length + 1 := by omega
                subst hme
                by_cases hlt2 : n + (g.length + 1) < us.length
                · obtain ⟨⟨w', tv'⟩, hx'⟩ : ∃ x, uv[n + (g.length + 1)]? = some x := ⟨uv[n + (g.length + 1)]'(by omega), List.getElem?_eq_getElem (by omega)⟩
                  obtain ⟨U0, U1, U2, U3, U4⟩ := UV9.field hx'
                  have IU := Rd.index UV9.rd underlying41 asz45 (q := .i64) (i := ((n + (g.length + 1) : Nat) : Int)) (by omega) (by omega)
                  simp only [Int.toNat_natCast] at IU
                  rw [show ((n + (g.length + 1) : Nat) : Int) = (n : Int) + ((g.length + 1 : Nat) : Int) by omega] at IU
                  have d7 : decide ((n : Int) + ((g.length + 1 : Nat) : Int) < (us.length : Int)) = true := decide_eq_true (by omega)
                  have d8 : decide (w'.col < b) = false := decide_eq_false (by have := hgn w' tv' hx'; omega)
                  simp only [wk, wt, wl, ↓reduceIte, Nat.reduceEqDiff, Nat.reduceAdd, Nat.zero_add, not_false_eq_true, not_true_eq_false, t0, t3, t5, t6, t7, t8, t9, t10, t11, t12, hlenU9, IU, U2, A2, d7, d8]
                  clear U0 U1 U2 U3 U4 IU
                  refine adraw_order [(0, false), (1, false), (2, false), (3, false), (4, false), (5, false), (6, false), (7, false), (8, false), (9, false), (10, false), (11, false), (12, false), (13, false), (14, false), (15, false), (16, false), (17, false), (18, false), (19, false), (20, false), (21, false), (22, false), (23, false), (24, false), (25, false), (26, false), (27, false), (28, false), (29, false), (30, false), (31, false), (32, false), (33, false), (34, false), (35, false), (36, false), (37, false), (38, false), (39, false), (40, false), (41, false), (42, false)] mixed (by kernel_rfl) (by kernel_rfl) (by kernel_rfl) (by with_reducible repeat (first | exact PF_retK | refine PF_thenK ?_ | refine PF_blockK ?_)) ?_
                  have hd9 : decide ((0 : Int) < ((g.length + 1 : Nat) : Int)) = true := decide_eq_true (by omega)
                  obtain ⟨w, tv, hx, g1, g2, g3, g4⟩ := hgu g.length (Nat.le_refl _)
                  have g2 := g2 rfl
                  subst g2
                  obtain ⟨U0, U1, U2, U3, U4⟩ := UV9.field hx
                  have IU := Rd.index UV9.rd underlying41 asz45 (q := .i64) (i := ((n + g.length : Nat) : Int)) (by omega) (by have := (List.getElem?_eq_some_iff.1 hx).1; omega)
                  simp only [Int.toNat_natCast] at IU
                  rw [show ((n + g.length : Nat) : Int) = (n : Int) + ((g.length + 1 : Nat) : Int) - 1 by omega] at IU
                  have w1 : IntKind.i64.wrap ((n : Int) + ((g.length + 1 : Nat) : Int) - 1) = (n : Int) + ((g.length + 1 : Nat) : Int) - 1 := IntWalk.i64_in _ (by omega)
                  have w3 : IntKind.i64.wrap (w.col + w.wd) = w.col + w.wd := IntWalk.i64_in _ (by omega)
                  have d10 : decide (¬ w.col + w.wd = b) = false := decide_eq_false (by simp [hu])
                  have d13 : decide (((g.length + 1 : Nat) : Int) = 0) = false := decide_eq_false (by omega)
                  have hdropn : us.drop (n + (g.length + 1)) = us' := by
                    rw [← List.drop_drop, husn, show g ++ w :: us' = (g ++ [w]) ++ us' by simp, List.drop_append_of_le_length (by simp), List.drop_of_length_le (by simp)]; rfl
                  by_cases hg0 : g = []
                  · have hgl1 : g.length + 1 = 1 := by rw [hg0]; rfl
                    have d11 : decide (¬ ((g.length + 1 : Nat) : Int) = 1) = false := decide_eq_false (by simp [hg0])
                    simp only [wk, wt, wl, ↓reduceIte, Nat.reduceEqDiff, Nat.reduceAdd, Nat.zero_add, not_false_eq_true, not_true_eq_false, dK_t, t0, t3, t5, t6, t7, t8, t9, t10, t11, t12, hlenU9, IU, U2, U3, A1, A2, hd9, w1, w3, d10, d11, d13, wat, intOf_int]
                    exact ⟨⟨K9, j + 1, n + (g.length + 1), b, by simp; omega, by simp, rfl, by omega, by omega, by omega, .inl (by rw [hdropn]; exact tq)⟩, by omega⟩
                  · have hg1 : 1 ≤ g.length := by cases g with
                      | nil => exact absurd rfl hg0
                      | cons _ _ => simp
                    have hfit : b - c ≤ cz := hw.resolve_left hg0
                    have d11 : decide (¬ ((g.length + 1 : Nat) : Int) = 1) = true := decide_eq_true (by omega)
                    have w4 : IntKind.i64.wrap (b - c) = b - c := IntWalk.i64_in _ (by omega)
                    have d12 : decide (cz < b - c) = false := decide_eq_false (by omega)
                    simp only [wk, wt, wl, ↓reduceIte, Nat.reduceEqDiff, Nat.reduceAdd, Nat.zero_add, not_false_eq_true, not_true_eq_false, dK_t, t0, t3, t5, t6, t7, t8, t9, t10, t11, t12, hlenU9, IU, U2, U3, A1, A2, hd9, w1, w3, w4, d10, d11, d12, d13, wat, LX V9, intOf_int]
                    exact ⟨⟨K9, j + 1, n + (g.length + 1), b, by simp; omega, by simp, rfl, by omega, by omega, by omega, .inl (by rw [hdropn]; exact tq)⟩, by omega⟩
                · have d7 : decide ((n : Int) + ((g.length + 1 : Nat) : Int) < (us.length : Int)) = false := decide_eq_false (by omega)
                  simp only [wk, wt, wl, ↓reduceIte, Nat.reduceEqDiff, Nat.reduceAdd, Nat.zero_add, not_false_eq_true, not_true_eq_false, t0, t3, t5, t6, t7, t8, t9, t10, t11, t12, hlenU9, d7]
                  refine adraw_order [(0, false), (1, false), (2, false), (3, false), (4, false), (5, false), (6, false), (7, false), (8, false), (9, false), (10, false), (11, false), (12, false), (13, false), (14, false), (15, false), (16, false), (17, false), (18, false), (19, false), (20, false), (21, false), (22, false), (23, false), (24, false), (25, false), (26, false), (27, false), (28, false), (29, false), (30, false), (31, false), (32, false), (33, false), (34, false), (35, false), (36, false), (37, false), (38, false), (39, false), (40, false), (41, false), (42, false)] mixed (by kernel_rfl) (by kernel_rfl) (by kernel_rfl) (by with_reducible repeat (first | exact PF_retK | refine PF_thenK ?_ | refine PF_blockK ?_)) ?_
                  have hd9 : decide ((0 : Int) < ((g.length + 1 : Nat) : Int)) = true := decide_eq_true (by omega)
                  obtain ⟨w, tv, hx, g1, g2, g3, g4⟩ := hgu g.length (Nat.le_refl _)
                  have g2 := g2 rfl
                  subst g2
                  obtain ⟨U0, U1, U2, U3, U4⟩ := UV9.field hx
                  have IU := Rd.index UV9.rd underlying41 asz45 (q := .i64) (i := ((n + g.length : Nat) : Int)) (by omega) (by have := (List.getElem?_eq_some_iff.1 hx).1; omega)
                  simp only [Int.toNat_natCast] at IU
                  rw [show ((n + g.length : Nat) : Int) = (n : Int) + ((g.length + 1 : Nat) : Int) - 1 by omega] at IU
                  have w1 : IntKind.i64.wrap ((n : Int) + ((g.length + 1 : Nat) : Int) - 1) = (n : Int) + ((g.length + 1 : Nat) : Int) - 1 := IntWalk.i64_in _ (by omega)
                  have w3 : IntKind.i64.wrap (w.col + w.wd) = w.col + w.wd := IntWalk.i64_in _ (by omega)
                  have d10 : decide (¬ w.col + w.wd = b) = false := decide_eq_false (by simp [hu])
                  have d13 : decide (((g.length + 1 : Nat) : Int) = 0) = false := decide_eq_false (by omega)
                  have hdropn : us.drop (n + (g.length + 1)) = us' := by
                    rw [← List.drop_drop, husn, show g ++ w :: us' = (g ++ [w]) ++ us' by simp, List.drop_append_of_le_length (by simp), List.drop_of_length_le (by simp)]; rfl
                  by_cases hg0 : g = []
                  · have hgl1 : g.length + 1 = 1 := by rw [hg0]; rfl
                    have d11 : decide (¬ ((g.length + 1 : Nat) : Int) = 1) = false := decide_eq_false (by simp [hg0])
                    simp only [wk, wt, wl, ↓reduceIte, Nat.reduceEqDiff, Nat.reduceAdd, Nat.zero_add, not_false_eq_true, not_true_eq_false, dK_t, t0, t3, t5, t6, t7, t8, t9, t10, t11, t12, hlenU9, IU, U2, U3, A1, A2, hd9, w1, w3, d10, d11, d13, wat, intOf_int]
                    exact ⟨⟨K9, j + 1, n + (g.length + 1), b, by simp; omega, by simp, rfl, by omega, by omega, by omega, .inl (by rw [hdropn]; exact tq)⟩, by omega⟩
                  · have hg1 : 1 ≤ g.length := by cases g with
                      | nil => exact absurd rfl hg0
                      | cons _ _ => simp
                    have hfit : b - c ≤ cz := hw.resolve_left hg0
                    have d11 : decide (¬ ((g.length + 1 : Nat) : Int) = 1) = true := decide_eq_true (by omega)
                    have w4 : IntKind.i64.wrap (b - c) = b - c := IntWalk.i64_in _ (by omega)
                    have d12 : decide (cz < b - c) = false := decide_eq_false (by omega)
                    simp only [wk, wt, wl, ↓reduceIte, Nat.reduceEqDiff, Nat.reduceAdd, Nat.zero_add, not_false_eq_true, not_true_eq_false, dK_t, t0, t3, t5, t6, t7, t8, t9, t10, t11, t12, hlenU9, IU, U2, U3, A1, A2, hd9, w1, w3, w4, d10, d11, d12, d13, wat, LX V9, intOf_int]
                    exact ⟨⟨K9, j + 1, n + (g.length + 1), b, by simp; omega, by simp, rfl, by omega, by omega, by omega, .inl (by rw [hdropn]; exact tq)⟩, by omega⟩
            · subst q3; subst q5
              rw [q4] at hp; simp at hp; subst hp
              simp only at hpc A1 A2 d5 d6
              have hp1 : ps.length = 1 := by rw [q4]; rfl
              subst q2
              have hu0 : us.length = 0 := by rw [q1]; rfl
              have d7 : decide (((0 : Nat) : Int) < (us.length : Int)) = false := decide_eq_false (by omega)
              have d7' : decide ((0 : Int) < (us.length : Int)) = false := decide_eq_false (by omega)
              refine W_loop (fun tm h' => h' = h9 ∧ tm 0 = v ∧ tm 3 = .pointer (some ⟨h.size, 0, none⟩) ∧ tm 5 = rv ∧ tm 7 = .int .i64 i ∧ tm 8 = ul ∧ tm 6 = .int .i64 ((base : Int) + ((0 : Nat) : Int)) ∧ tm 10 = .int .i64 0 ∧ tm 11 = .pointer (some ⟨h7.size, 0, none⟩) ∧ tm 9 = .int .i64 ((0 : Nat) : Int) ∧ tm 12 = .int .i64 0)
                (fun tm _ => 0) ⟨rfl, (by first | rfl | (simp only [wk, wt, wl, ↓reduceIte, Nat.reduceEqDiff, Nat.reduceAdd, Nat.zero_add, not_false_eq_true, not_true_eq_false]; done) | (simp only [wk, wt, wl, ↓reduceIte, Nat.reduceEqDiff, Nat.reduceAdd, Nat.zero_add, not_false_eq_true, not_true_eq_false]; rfl) | (simp only [wk, wt, wl, ↓reduceIte, Nat.reduceEqDiff, Nat.reduceAdd, Nat.zero_add, not_false_eq_true, not_true_eq_false, t0]; done) | (simp only [wk, wt, wl, ↓reduceIte, Nat.reduceEqDiff, Nat.reduceAdd, Nat.zero_add, not_false_eq_true, not_true_eq_false, t0]; rfl)), (by first | rfl | (simp only [wk, wt, wl, ↓reduceIte, Nat.reduceEqDiff, Nat.reduceAdd, Nat.zero_add, not_false_eq_true, not_true_eq_false]; done) | (simp only [wk, wt, wl, ↓reduceIte, Nat.reduceEqDiff, Nat.reduceAdd, Nat.zero_add, not_false_eq_true, not_true_eq_false]; rfl) | (simp only [wk, wt, wl, ↓reduceIte, Nat.reduceEqDiff, Nat.reduceAdd, Nat.zero_add, not_false_eq_true, not_true_eq_false, t3]; done) | (simp only [wk, wt, wl, ↓reduceIte, Nat.reduceEqDiff, Nat.reduceAdd, Nat.zero_add, not_false_eq_true, not_true_eq_false, t3]; rfl)), (by first | rfl | (simp only [wk, wt, wl, ↓reduceIte, Nat.reduceEqDiff, Nat.reduceAdd, Nat.zero_add, not_false_eq_true, not_true_eq_false]; done) | (simp only [wk, wt, wl, ↓reduceIte, Nat.reduceEqDiff, Nat.reduceAdd, Nat.zero_add, not_false_eq_true, not_true_eq_false]; rfl) | (simp only [wk, wt, wl, ↓reduceIte, Nat.reduceEqDiff, Nat.reduceAdd, Nat.zero_add, not_false_eq_true, not_true_eq_false, t5]; done) | (simp only [wk, wt, wl, ↓reduceIte, Nat.reduceEqDiff, Nat.reduceAdd, Nat.zero_add, not_false_eq_true, not_true_eq_false, t5]; rfl)), (by first | rfl | (simp only [wk, wt, wl, ↓reduceIte, Nat.reduceEqDiff, Nat.reduceAdd, Nat.zero_add, not_false_eq_true, not_true_eq_false]; done) | (simp only [wk, wt, wl, ↓reduceIte, Nat.reduceEqDiff, Nat.reduceAdd, Nat.zero_add, not_false_eq_true, not_true_eq_false]; rfl) | (simp only [wk, wt, wl, ↓reduceIte, Nat.reduceEqDiff, Nat.reduceAdd, Nat.zero_add, not_false_eq_true, not_true_eq_false, t7]; done) | (simp only [wk, wt, wl, ↓reduceIte, Nat.reduceEqDiff, Nat.reduceAdd, Nat.zero_add, not_false_eq_true, not_true_eq_false, t7]; rfl)), (by first | rfl | (simp only [wk, wt, wl, ↓reduceIte, Nat.reduceEqDiff, Nat.reduceAdd, Nat.zero_add, not_false_eq_true, not_true_eq_false]; done) | (simp only [wk, wt, wl, ↓reduceIte, Nat.reduceEqDiff, Nat.reduceAdd, Nat.zero_add, not_false_eq_true, not_true_eq_false]; rfl) | (simp only [wk, wt, wl, ↓reduceIte, Nat.reduceEqDiff, Nat.reduceAdd, Nat.zero_add, not_false_eq_true, not_true_eq_false, t8]; done) | (simp only [wk, wt, wl, ↓reduceIte, Nat.reduceEqDiff, Nat.reduceAdd, Nat.zero_add, not_false_eq_true, not_true_eq_false, t8]; rfl)), (by first | rfl | (simp only [wk, wt, wl, ↓reduceIte, Nat.reduceEqDiff, Nat.reduceAdd, Nat.zero_add, not_false_eq_true, not_true_eq_false]; done) | (simp only [wk, wt, wl, ↓reduceIte, Nat.reduceEqDiff, Nat.reduceAdd, Nat.zero_add, not_false_eq_true, not_true_eq_false]; rfl) | (simp only [wk, wt, wl, ↓reduceIte, Nat.reduceEqDiff, Nat.reduceAdd, Nat.zero_add, not_false_eq_true, not_true_eq_false, t6]; done) | (simp only [wk, wt, wl, ↓reduceIte, Nat.reduceEqDiff, Nat.reduceAdd, Nat.zero_add, not_false_eq_true, not_true_eq_false, t6]; rfl)), (by first | rfl | (simp only [wk, wt, wl, ↓reduceIte, Nat.reduceEqDiff, Nat.reduceAdd, Nat.zero_add, not_false_eq_true, not_true_eq_false]; done) | (simp only [wk, wt, wl, ↓reduceIte, Nat.reduceEqDiff, Nat.reduceAdd, Nat.zero_add, not_false_eq_true, not_true_eq_false]; rfl) | (simp only [wk, wt, wl, ↓reduceIte, Nat.reduceEqDiff, Nat.reduceAdd, Nat.zero_add, not_false_eq_true, not_true_eq_false, t10]; done) | (simp only [wk, wt, wl, ↓reduceIte, Nat.reduceEqDiff, Nat.reduceAdd, Nat.zero_add, not_false_eq_true, not_true_eq_false, t10]; rfl)), (by first | rfl | (simp only [wk, wt, wl, ↓reduceIte, Nat.reduceEqDiff, Nat.reduceAdd, Nat.zero_add, not_false_eq_true, not_true_eq_false]; done) | (simp only [wk, wt, wl, ↓reduceIte, Nat.reduceEqDiff, Nat.reduceAdd, Nat.zero_add, not_false_eq_true, not_true_eq_false]; rfl)), (by first | rfl | (simp only [wk, wt, wl, ↓reduceIte, Nat.reduceEqDiff, Nat.reduceAdd, Nat.zero_add, not_false_eq_true, not_true_eq_false]; done) | (simp only [wk, wt, wl, ↓reduceIte, Nat.reduceEqDiff, Nat.reduceAdd, Nat.zero_add, not_false_eq_true, not_true_eq_false]; rfl) | (simp only [wk, wt, wl, ↓reduceIte, Nat.reduceEqDiff, Nat.reduceAdd, Nat.zero_add, not_false_eq_true, not_true_eq_false, t9]; done) | (simp only [wk, wt, wl, ↓reduceIte, Nat.reduceEqDiff, Nat.reduceAdd, Nat.zero_add, not_false_eq_true, not_true_eq_false, t9]; rfl)), (by first | rfl | (simp only [wk, wt, wl, ↓reduceIte, Nat.reduceEqDiff, Nat.reduceAdd, Nat.zero_add, not_false_eq_true, not_true_eq_false]; done) | (simp only [wk, wt, wl, ↓reduceIte, Nat.reduceEqDiff, Nat.reduceAdd, Nat.zero_add, not_false_eq_true, not_true_eq_false]; rfl))⟩ ?_
              rintro tm hq ⟨rfl, t0, t3, t5, t7, t8, t6, t10, t11, t9, t12⟩
              simp only [wk, wt, wl, ↓reduceIte, Nat.reduceEqDiff, Nat.reduceAdd, Nat.zero_add, not_false_eq_true, not_true_eq_false]
              refine adraw_order [(0, false), (1, false), (2, false), (3, false), (4, false), (5, false), (6, false), (7, false), (8, false), (9, false), (10, false), (11, false), (12, false), (13, false)] mixed (by kernel_rfl) (by kernel_rfl) (by kernel_rfl) (by with_reducible repeat (first | exact PF_retK | refine PF_thenK ?_ | refine PF_blockK ?_)) ?_
              simp only [wk, wt, wl, ↓reduceIte, Nat.reduceEqDiff, Nat.reduceAdd, Nat.zero_add, not_false_eq_true, not_true_eq_false, t0, t3, t5, t6, t7, t8, t9, t10, t11, t12, hlenU9, d7]
              refine adraw_order [(0, false), (1, false), (2, false), (3, false), (4, false), (5, false), (6, false), (7, false), (8, false), (9, false), (10, false), (11, false), (12, false), (13, false), (14, false), (15, false), (16, false), (17, false), (18, false), (19, false), (20, false), (21, false), (22, false), (23, false), (24, false), (25, false), (26, false), (27, false), (28, false), (29, false), (30, false), (31, false), (32, false), (33, false), (34, false), (35, false), (36, false), (37, false), (38, false), (39, false), (40, false), (41, false), (42, false)] mixed (by kernel_rfl) (by kernel_rfl) (by kernel_rfl) (by with_reducible repeat (first | exact PF_retK | refine PF_thenK ?_ | refine PF_blockK ?_)) ?_
              have e1 : decide ((0 : Int) < 0) = false := rfl
              have e2 : decide (¬ (0 : Int) = 1) = true := rfl
              have e3 : decide ((0 : Int) = 0) = true := rfl
              have e4 : decide (cz < IntKind.i64.wrap (0 - 0)) = false := by rw [IntWalk.i64_in _ (by omega)]; exact decide_eq_false (by omega)
              simp only [wk, wt, wl, ↓reduceIte, Nat.reduceEqDiff, Nat.reduceAdd, Nat.zero_add, not_false_eq_true, not_true_eq_false, dK_t, t0, t3, t5, t6, t7, t8, t9, t10, t11, t12, hlenU9, A1, A2, LX V9, e1, e2, e3, e4, d7', wat, intOf_int]
              exact ⟨⟨K9, 1, 0, 0, by simp, rfl, rfl, by omega, by omega, Int.le_refl _, .inl (by rw [q1, q4]; exact .done)⟩, by omega⟩
          · have hjd : ps.drop j = [] := List.drop_of_length_le (by omega)
            have hje : j = ps.length := by omega
            have hnus : n = us.length := by
              rcases hst with q | ⟨_, _, q, q4, _⟩
              · rw [hjd] at q
                have hz : us.drop n = [] := by
                  generalize us.drop n = us' at q
                  cases q with
                  | done => rfl
                have := congrArg List.length hz
                simp at this; omega
              · rw [q4] at hje; simp at hje; omega
            have d9 : decide (¬ (n : Int) = (us.length : Int)) = false := decide_eq_false (by simp [hnus])
            have hfinal : (viewL ls cz tab true (A ++ [f])).length = base + ps.length := by rw [hvA, List.length_append, hbase, hro, List.length_map]
            by_cases hlt2 : base + j < (viewL ls cz tab true r).length
            · obtain ⟨y, hy⟩ : ∃ y, (viewL ls cz tab true r)[base + j]? = some y := ⟨_, List.getElem?_eq_getElem hlt2⟩
              have hyl := hend y (by rw [← hje]; exact hy)
              obtain ⟨B0, B1, B2, B3, B4⟩ := RR.flds RV7 hy
              have IX := Rd.index RV7 underlying28 asz37 (q := .i64) (i := ((base + j : Nat) : Int)) (by omega) (by omega)
              simp only [Int.toNat_natCast] at IX
              rw [show ((base + j : Nat) : Int) = (base : Int) + j by omega] at IX
              have d3 : decide ((base : Int) + j < ((viewL ls cz tab true r).length : Int)) = true := decide_eq_true (by omega)
              have d4 : decide (y.ln = i) = false := decide_eq_false (by omega)
              simp only [wk, wt, wl, ↓reduceIte, Nat.reduceEqDiff, Nat.reduceAdd, Nat.zero_add, not_false_eq_true, not_true_eq_false, t0, t3, t5, t6, t7, t8, t9, t10, hlenR7, hlenU7, d3, d4, IX, B0, d9, LX V7]
              refine (refNext_ok (x := i) (RS.keeps RF K07) (by have := (rightB_at (rightOr_right (l := l))).2.2; omega) (rightOr_near hn) (by omega)).use_pure ?_
              simp only [wk, wt, wl, ↓reduceIte, Nat.reduceEqDiff, Nat.reduceAdd, Nat.zero_add, not_false_eq_true, not_true_eq_false, t0, t3, t5, t6, t7, intOf_int]
              exact ⟨⟨K07, nextZ1 (rightOr l) i, A ++ [f], C', rfl, by rw [hfinal, ← hje]; simp, hrA, by omega, by omega, hrw', hhn⟩, by omega⟩
            · have d3 : decide ((base : Int) + j < ((viewL ls cz tab true r).length : Int)) = false := decide_eq_false (by omega)
              simp only [wk, wt, wl, ↓reduceIte, Nat.reduceEqDiff, Nat.reduceAdd, Nat.zero_add, not_false_eq_true, not_true_eq_false, t0, t3, t5, t6, t7, t8, t9, t10, hlenR7, hlenU7, d3, d9, LX V7]
              refine (refNext_ok (x := i) (RS.keeps RF K07) (by have := (rightB_at (rightOr_right (l := l))).2.2; omega) (rightOr_near hn) (by omega)).use_pure ?_
              simp only [wk, wt, wl, ↓reduceIte, Nat.reduceEqDiff, Nat.reduceAdd, Nat.zero_add, not_false_eq_true, not_true_eq_false, t0, t3, t5, t6, t7, intOf_int]
              exact ⟨⟨K07, nextZ1 (rightOr l) i, A ++ [f], C', rfl, by rw [hfinal, ← hje]; simp, hrA, by omega, by omega, hrw', hhn⟩, by omega⟩
      · have hCn : C = [] := by
          cases hrw with
          | done _ => rfl
          | step h _ => exact absurd h hd
        have RV' : RR h' rv _ := RS.keeps RVx K
        have hAr : A = r := by rw [hrc, hCn]; simp
        have d1 : decide (((viewL ls cz tab true A).length : Int) = (viewL ls cz tab true r).length) = true := decide_eq_true (by rw [hAr])
        simp only [wk, wt, wl, ↓reduceIte, Nat.reduceEqDiff, Nat.reduceAdd, Nat.zero_add, not_false_eq_true, not_true_eq_false, t0, t3, t5, t6, t7, RV'.len underlying28, d1]
        refine (awake_ok (G.keeps KK)).use ?_
        rintro _ h6 ⟨rfl, K6⟩
        simp only [wk, wt, wl, ↓reduceIte, Nat.reduceEqDiff, Nat.reduceAdd, Nat.zero_add, not_false_eq_true, not_true_eq_false]
        exact KK.trans K6
end Go.Proofs.YtmjdebeikcogkaaDoor.Am
end
