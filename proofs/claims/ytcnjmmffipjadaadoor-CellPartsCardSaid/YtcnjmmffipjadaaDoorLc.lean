/- A statement of the second chapter, told of abstract memory: CellTabs answers true. -/
import Derived.Test.YtcnjmmffipjadaaDoorUa
set_option linter.unusedSimpArgs false
set_option linter.unusedVariables false
set_option maxHeartbeats 4000000
set_option maxRecDepth 20000
namespace Go.Proofs.YtcnjmmffipjadaaDoor.Am
open Go Go.RowKit Go.Proofs.Tryd
theorem cellTabs_law {a : Value} {line : List Int} {tab : Int} {h : Heap} (ha : RdI prog h .i32 a line) (G : Gl h) (hline : ∀ j, isR (line.getD j 0)) :
    ACalls prog 5 #[a, .int .i64 tab] h (fun v h' => v = .bool true ∧ Keeps h h') := by
  refine acalls_of_W' func5 rfl (by kernel_rfl) (by kernel_rfl) (by simp [ntmps5]) ?_
  intro H
  by_cases hs : line.length ≤ 1000 ∧ 1 ≤ tab ∧ tab ≤ 64
  · obtain ⟨hlen1, ht⟩ := hs
    have hlen : line.length ≤ 10000 := by omega
    have c1 : decide ((1000 : Int) < line.length) = false := decide_eq_false (by omega)
    have c2 : decide (tab < 1) = false := decide_eq_false (by omega)
    have c3 : decide ((64 : Int) < tab) = false := decide_eq_false (by omega)
    simp only [wk, wt, wl, ↓reduceIte, Nat.reduceEqDiff, Nat.reduceAdd, Nat.zero_add, not_false_eq_true, not_true_eq_false, RdI.len ha underlying24, c1, c2, c3]
    refine (units_ok ha G hline hlen).use ?_
    rintro l h2 ⟨uv, hu, R, K⟩
    have hlen' : uv.length = (unitsL line tab).length := by rw [← hu]; simp
    have hul := (unitsL_ok (line := line) (tab := tab)).len
    simp only [wk, wt, wl, ↓reduceIte, Nat.reduceEqDiff, Nat.reduceAdd, Nat.zero_add, not_false_eq_true, not_true_eq_false]
    refine W_loop (fun tm h' => h' = h2 ∧ tm 0 = a ∧ tm 1 = .int .i64 tab ∧ tm 5 = l ∧ ∃ j : Nat, tm 6 = .int .i64 j ∧ j ≤ uv.length) (fun tm _ => (uv.length - intOf (tm 6)).toNat) ⟨rfl, (by first | rfl | (simp only [wk, wt, wl, ↓reduceIte, Nat.reduceEqDiff, Nat.reduceAdd, Nat.zero_add, not_false_eq_true, not_true_eq_false]; done) | (simp only [wk, wt, wl, ↓reduceIte, Nat.reduceEqDiff, Nat.reduceAdd, Nat.zero_add, not_false_eq_true, not_true_eq_false]; rfl)), (by first | rfl | (simp only [wk, wt, wl, ↓reduceIte, Nat.reduceEqDiff, Nat.reduceAdd, Nat.zero_add, not_false_eq_true, not_true_eq_false]; done) | (simp only [wk, wt, wl, ↓reduceIte, Nat.reduceEqDiff, Nat.reduceAdd, Nat.zero_add, not_false_eq_true, not_true_eq_false]; rfl)), (by first | rfl | (simp only [wk, wt, wl, ↓reduceIte, Nat.reduceEqDiff, Nat.reduceAdd, Nat.zero_add, not_false_eq_true, not_true_eq_false]; done) | (simp only [wk, wt, wl, ↓reduceIte, Nat.reduceEqDiff, Nat.reduceAdd, Nat.zero_add, not_false_eq_true, not_true_eq_false]; rfl)), 0, (by first | rfl | (simp only [wk, wt, wl, ↓reduceIte, Nat.reduceEqDiff, Nat.reduceAdd, Nat.zero_add, not_false_eq_true, not_true_eq_false]; done) | (simp only [wk, wt, wl, ↓reduceIte, Nat.reduceEqDiff, Nat.reduceAdd, Nat.zero_add, not_false_eq_true, not_true_eq_false]; rfl)), by omega⟩ ?_
    rintro tm h' ⟨rfl, t0, t1, t5, j, t6, hj⟩
    simp only [wk, wt, wl, ↓reduceIte, Nat.reduceEqDiff, Nat.reduceAdd, Nat.zero_add, not_false_eq_true, not_true_eq_false, t0, t1, t5, t6, Rd.len R.rd underlying33]
    refine condK_dec (fun hd => ?_) (fun hd => ?_)
    · have hj1 : j < uv.length := by omega
      have hx := units_get hu hj1
      obtain ⟨F0, F1, F2, F3, F4⟩ := R.field (i := j) (u := (uv[j]).1) (tv := (uv[j]).2) (by simp [hj1])
      have hb := unit_bounds hlen (List.mem_of_getElem? hx)
      have htb := fun h9 => unitsL_tab (line := line) ht (List.mem_of_getElem? hx) h9
      generalize (uv[j]).1 = u at *
      have IX := Rd.index R.rd underlying33 asz36 (q := .i64) (i := (j : Int)) (by omega) (by omega)
      have LX := RdI.at (ha.keeps K) (t := 21) underlying21 rfl (i := u.fr.toNat) (by omega)
      simp only [wk, wt, wl, ↓reduceIte, Nat.reduceEqDiff, Nat.reduceAdd, Nat.zero_add, not_false_eq_true, not_true_eq_false]
      by_cases h9 : line.getD u.fr.toNat 0 = 9
      · obtain ⟨g1, g2, g3⟩ := htb h9
        have g2' : decide (tab < u.wd) = false := decide_eq_false (by omega)
        rw [h9] at LX
        refine adraw_order [(0, false), (1, false), (2, false), (3, false), (4, false), (5, false), (6, false), (7, false), (8, false), (9, false), (10, false), (11, false), (12, false), (13, false), (14, false), (15, false), (16, false), (17, false), (18, false), (19, false), (20, false), (21, false), (22, false), (23, false), (24, false), (25, false), (26, false), (27, false), (28, false), (29, false), (30, false), (31, false), (32, false), (33, false), (34, false), (35, false), (36, false), (37, false), (38, false), (39, false), (40, false), (41, false), (42, false), (43, false), (44, false), (45, false), (46, false), (47, false)] mixed (by kernel_rfl) (by kernel_rfl) (by kernel_rfl) (by repeat (first | exact PF_retK | refine PF_thenK ?_ | refine PF_blockK ?_)) ?_
        simp (disch := omega) only [wk, wt, wl, ↓reduceIte, Nat.reduceEqDiff, Nat.reduceAdd, Nat.zero_add, not_false_eq_true, not_true_eq_false, t0, t1, t5, t6, IX, F0, F1, F2, F3, RdI.index (ha.keeps K) underlying24 asz21, LX, decide_true, IntWalk.i64_in, abin_rem (P := prog) (t := 3) (k := .i64) (x := u.col + u.wd) (y := tab), Int.tmod_eq_emod_of_nonneg, g1, g2', g3, intOf_int, not_true_eq_false, decide_false]
        exact ⟨⟨j + 1, by simp, by omega⟩, by omega⟩
      · have h9' : decide (line.getD u.fr.toNat 0 = 9) = false := decide_eq_false h9
        refine adraw_order [(0, false), (1, false), (2, false), (3, false), (4, false), (5, false), (6, false), (7, false), (8, false), (9, false), (10, false), (11, false), (12, false), (13, false), (14, false), (15, false), (16, false), (17, false), (18, false), (19, false), (20, false), (21, false), (22, false), (23, false), (24, false), (25, false), (26, false), (27, false), (28, false), (29, false), (30, false), (31, false), (32, false), (33, false), (34, false), (35, false), (36, false), (37, false), (38, false), (39, false), (40, false), (41, false), (42, false), (43, false), (44, false), (45, false), (46, false), (47, false)] mixed (by kernel_rfl) (by kernel_rfl) (by kernel_rfl) (by repeat (first | exact PF_retK | refine PF_thenK ?_ | refine PF_blockK ?_)) ?_
        simp (disch := omega) only [wk, wt, wl, ↓reduceIte, Nat.reduceEqDiff, Nat.reduceAdd, Nat.zero_add, not_false_eq_true, not_true_eq_false, t0, t1, t5, t6, IX, F0, F1, F2, F3, RdI.index (ha.keeps K) underlying24 asz21, LX, h9', IntWalk.i64_in, intOf_int]
        exact ⟨⟨j + 1, by simp, by omega⟩, by omega⟩
    · simp only [wk, wt, wl, ↓reduceIte, Nat.reduceEqDiff, Nat.reduceAdd, Nat.zero_add, not_false_eq_true, not_true_eq_false, t0, t1, t5, t6]
      refine (awake_ok (G.keeps K)).use ?_
      rintro _ h3 ⟨rfl, K3⟩
      simp only [wk, wt, wl, ↓reduceIte, Nat.reduceEqDiff, Nat.reduceAdd, Nat.zero_add, not_false_eq_true, not_true_eq_false]
      exact K.trans K3
  · simp only [wk, wt, wl, ↓reduceIte, Nat.reduceEqDiff, Nat.reduceAdd, Nat.zero_add, not_false_eq_true, not_true_eq_false, RdI.len ha underlying24]
    refine gateO_decF (fun h1 => ?_) (fun h1 => ?_)
    · simp only [wk, wt, wl, ↓reduceIte, Nat.reduceEqDiff, Nat.reduceAdd, Nat.zero_add, not_false_eq_true, not_true_eq_false, h1]
      refine gateO_decF (fun h2 => ?_) (fun h2 => ?_)
      · simp only [wk, wt, wl, ↓reduceIte, Nat.reduceEqDiff, Nat.reduceAdd, Nat.zero_add, not_false_eq_true, not_true_eq_false, h1, h2]
        refine condK_dec (fun h3 => ?_) (fun h3 => ?_)
        · simp only [wk, wt, wl, ↓reduceIte, Nat.reduceEqDiff, Nat.reduceAdd, Nat.zero_add, not_false_eq_true, not_true_eq_false, h1, h2]
          refine (awake_ok G).use ?_
          rintro _ h3 ⟨rfl, K3⟩
          simp only [wk, wt, wl, ↓reduceIte, Nat.reduceEqDiff, Nat.reduceAdd, Nat.zero_add, not_false_eq_true, not_true_eq_false]
          exact K3
        · exact absurd ⟨by omega, by omega, by omega⟩ hs
      · simp only [wk, wt, wl, ↓reduceIte, Nat.reduceEqDiff, Nat.reduceAdd, Nat.zero_add, not_false_eq_true, not_true_eq_false, h1, h2]
        refine (awake_ok G).use ?_
        rintro _ h3 ⟨rfl, K3⟩
        simp only [wk, wt, wl, ↓reduceIte, Nat.reduceEqDiff, Nat.reduceAdd, Nat.zero_add, not_false_eq_true, not_true_eq_false]
        exact K3
    · simp only [wk, wt, wl, ↓reduceIte, Nat.reduceEqDiff, Nat.reduceAdd, Nat.zero_add, not_false_eq_true, not_true_eq_false, h1]
      refine (awake_ok G).use ?_
      rintro _ h3 ⟨rfl, K3⟩
      simp only [wk, wt, wl, ↓reduceIte, Nat.reduceEqDiff, Nat.reduceAdd, Nat.zero_add, not_false_eq_true, not_true_eq_false]
      exact K3
end Go.Proofs.YtcnjmmffipjadaaDoor.Am
