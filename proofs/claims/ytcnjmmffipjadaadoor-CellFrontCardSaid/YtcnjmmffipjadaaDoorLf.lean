/- A statement of the second chapter, told of abstract memory: CellFront answers true. -/
import Derived.Test.YtcnjmmffipjadaaDoorLc
import Derived.Test.YtcnjmmffipjadaaDoorLb
import Derived.Test.YtcnjmmffipjadaaDoorAmKind3
set_option linter.unusedSimpArgs false
set_option linter.unusedVariables false
set_option maxHeartbeats 4000000
set_option maxRecDepth 20000
namespace Go.Proofs.YtcnjmmffipjadaaDoor.Am
open Go Go.RowKit Go.Proofs.Tryd
theorem UR.part {h : Heap} {l : Value} {uv : List (U × Value)} (R : UR h l uv) {m : Nat} (hm : m ≤ uv.length) : UR h (sliceV l 5 0 m) (uv.take m) := by
  refine ⟨?_, fun x hx => R.txt x (List.mem_of_mem_take hx)⟩
  have := Rd.part R.rd (Nat.zero_le m) hm
  simp only [Nat.zero_mul, List.drop_zero, Nat.sub_zero] at this
  rw [List.length_take, show min m uv.length = m by omega]
  have e : (uv.take m).flatMap cellsU = (uv.flatMap cellsU).take (m * 5) := by
    have h1 : uv.flatMap cellsU = (uv.take m).flatMap cellsU ++ (uv.drop m).flatMap cellsU := by rw [← List.flatMap_append, List.take_append_drop]
    have h2 : ((uv.take m).flatMap cellsU).length = m * 5 := by rw [cellsU_len, List.length_take]; omega
    rw [h1, List.take_append_of_le_length (by omega)]
    exact (List.take_of_length_le (by omega)).symm
  rw [e]; exact this
theorem cellFront_law {a b : Value} {line more : List Int} {tab : Int} {h : Heap} (ha : RdI prog h .i32 a line) (hb : RdI prog h .i32 b more) (G : Gl h) (hline : ∀ j, isR (line.getD j 0)) (hmore : ∀ j, isR (more.getD j 0)) :
    ACalls prog 6 #[a, b, .int .i64 tab] h (fun v h' => v = .bool true ∧ Keeps h h') := by
  refine acalls_of_W' func6 rfl (by kernel_rfl) (by kernel_rfl) (by simp [ntmps6]) ?_
  intro H
  by_cases hs : line.length ≤ 1000 ∧ more.length ≤ 1000
  · obtain ⟨hl1, hl2⟩ := hs
    have c1 : decide ((1000 : Int) < line.length) = false := decide_eq_false (by omega)
    have c2 : decide ((1000 : Int) < more.length) = false := decide_eq_false (by omega)
    simp only [wk, wt, wl, ↓reduceIte, Nat.reduceEqDiff, Nat.reduceAdd, Nat.zero_add, not_false_eq_true, not_true_eq_false, RdI.len ha underlying24, RdI.len hb underlying24, c1, c2]
    refine (units_ok ha G hline (by omega)).use ?_
    rintro l1 h1 ⟨uv, hu, R1, K1⟩
    simp only [wk, wt, wl, ↓reduceIte, Nat.reduceEqDiff, Nat.reduceAdd, Nat.zero_add, not_false_eq_true, not_true_eq_false, build0 (P := prog) (t := 24) underlying24 asz21]
    have N2 := Keeps.new (Ch.wf K1) 21 []
    have K2 := K1.trans N2
    have O2 : Own prog h1.size (h1.new 21 []) 1 (.slice (some ⟨h1.size, 0, none⟩) 0 1) 0 [] := Own.new (Ch.wf K1) (Nat.le_refl _) asz21 rfl
    generalize hh : h1.new 21 [] = h2 at *
    have z2 : h1.size ≤ h2.size := Ch.le N2
    obtain ⟨v3, h3, e3, O3, _, C3, _⟩ := O2.appendRd (P := prog) (Ch.wf K2) z2 underlying24 underlying24 rfl elem21 fits21 (by decide) (ha.keeps K2) (by omega)
    rw [e3]; clear e3
    have N3 : Keeps h1 h3 := N2.step C3 fun b hb => hb.2
    have K3 := K1.trans N3
    simp only [wk, wt, wl, ↓reduceIte, Nat.reduceEqDiff, Nat.reduceAdd, Nat.zero_add, not_false_eq_true, not_true_eq_false]
    obtain ⟨v4, h4, e4, O4, _, C4, _⟩ := O3.appendRd (P := prog) (Ch.wf K3) (Ch.le N3) underlying24 underlying24 rfl elem21 fits21 (by decide) (hb.keeps K3) (by omega)
    rw [e4]; clear e4
    have N4 : Keeps h1 h4 := N3.step C4 fun b hb => hb.2
    have K4 := K1.trans N4
    have hv4 : RdI prog h4 .i32 v4 (line ++ more) := by
      have := O4.1
      simpa [RdI] using this
    have hboth : ∀ j, isR ((line ++ more).getD j 0) := fun j => by
      by_cases hj : j < line.length
      · rw [List.getD_eq_getElem?_getD, List.getElem?_append_left hj, ← List.getD_eq_getElem?_getD]; exact hline j
      · rw [List.getD_eq_getElem?_getD, List.getElem?_append_right (by omega), ← List.getD_eq_getElem?_getD]; exact hmore _
    simp only [wk, wt, wl, ↓reduceIte, Nat.reduceEqDiff, Nat.reduceAdd, Nat.zero_add, not_false_eq_true, not_true_eq_false]
    refine (units_ok hv4 (G.keeps K4) hboth (by simp; omega)).use ?_
    rintro l2 h5 ⟨uw, hw, R5, K5'⟩
    have K5 := K4.trans K5'
    have R1' := R1.keeps (N4.trans K5')
    have hul := (unitsL_ok (line := line) (tab := tab)).len
    have hlen' : uv.length = (unitsL line tab).length := by rw [← hu]; simp
    have hlen2 : uw.length = (unitsL (line ++ more) tab).length := by rw [← hw]; simp
    by_cases hne : unitsL line tab = []
    · have c3 : decide ((0 : Int) < uv.length) = false := decide_eq_false (by rw [hlen', hne]; simp)
      simp only [wk, wt, wl, ↓reduceIte, Nat.reduceEqDiff, Nat.reduceAdd, Nat.zero_add, not_false_eq_true, not_true_eq_false]
      refine adraw_order [(0, false), (1, false), (2, false), (3, false), (4, false), (5, false), (6, false), (7, false), (8, false), (9, false), (10, false), (11, false), (12, false), (13, false), (14, false), (15, false), (16, false), (17, false), (18, false), (19, false), (20, true), (21, false), (22, false), (23, false)] mixed (by kernel_rfl) (by kernel_rfl) (by kernel_rfl) (by repeat (first | exact PF_retK | refine PF_thenK ?_ | refine PF_blockK ?_)) ?_
      simp (disch := omega) only [wk, wt, wl, ↓reduceIte, Nat.reduceEqDiff, Nat.reduceAdd, Nat.zero_add, not_false_eq_true, not_true_eq_false, dK_t, Rd.len R1'.rd underlying33, c3]
      refine ⟨Reads.refl _, ?_⟩
      refine (awake_ok (G.keeps K5)).use ?_
      rintro _ h6 ⟨rfl, K6⟩
      simp only [wk, wt, wl, ↓reduceIte, Nat.reduceEqDiff, Nat.reduceAdd, Nat.zero_add, not_false_eq_true, not_true_eq_false]
      exact K5.trans K6
    · obtain ⟨a0, x, y, l, e1, e2⟩ := unitsL_front (more := more) hne
      have n1 : uv.length = a0.length + 1 := by rw [hlen', e1]; simp
      have n2 : a0.length + 1 ≤ uw.length := by rw [hlen2, e2]; simp
      have c3 : decide ((0 : Int) < uv.length) = true := decide_eq_true (by omega)
      have c4 : decide ((uw.length : Int) < uv.length) = false := decide_eq_false (by omega)
      have S1 : aslice prog h5 33 l1 none (some (.int .i64 ((uv.length : Int) - 1))) none = some (sliceV l1 5 0 a0.length) := by
        have := Rd.sliceHi R1'.rd underlying33 asz36 (q' := .i64) (j := (uv.length : Int) - 1) (by omega) (by omega)
        rw [show ((uv.length : Int) - 1).toNat = a0.length by omega] at this; exact this
      have S2 : aslice prog h5 33 l2 none (some (.int .i64 ((uv.length : Int) - 1))) none = some (sliceV l2 5 0 a0.length) := by
        have := Rd.sliceHi R5.rd underlying33 asz36 (q' := .i64) (j := (uv.length : Int) - 1) (by omega) (by omega)
        rw [show ((uv.length : Int) - 1).toNat = a0.length by omega] at this; exact this
      have P1 := R1'.part (m := a0.length) (by omega)
      have P2 := R5.part (m := a0.length) (by omega)
      have m1 : (uv.take a0.length).map (·.1) = (uw.take a0.length).map (·.1) := by
        rw [List.map_take, List.map_take, hu, hw, e1, e2]; simp
      simp only [wk, wt, wl, ↓reduceIte, Nat.reduceEqDiff, Nat.reduceAdd, Nat.zero_add, not_false_eq_true, not_true_eq_false]
      refine adraw_order [(0, false), (1, false), (2, false), (3, false), (4, false), (5, false), (6, false), (7, false), (8, false), (9, false), (10, false), (11, false), (12, false), (13, false), (14, false), (15, false), (16, false), (17, false), (18, false), (19, false), (20, true), (21, false), (22, false), (23, false)] mixed (by kernel_rfl) (by kernel_rfl) (by kernel_rfl) (by repeat (first | exact PF_retK | refine PF_thenK ?_ | refine PF_blockK ?_)) ?_
      simp (disch := omega) only [wk, wt, wl, ↓reduceIte, Nat.reduceEqDiff, Nat.reduceAdd, Nat.zero_add, not_false_eq_true, not_true_eq_false, Rd.len R1'.rd underlying33, Rd.len R5.rd underlying33, c3, c4, S1, S2, IntWalk.i64_in]
      refine (same_ok P1 P2 m1 (by simp; omega) (fun z hz => unit_text (line := line) (tab := tab) (by omega) (by rw [← hu]; exact List.mem_map_of_mem (List.mem_of_mem_take hz)))).use_pure ?_
      simp (disch := omega) only [wk, wt, wl, ↓reduceIte, Nat.reduceEqDiff, Nat.reduceAdd, Nat.zero_add, not_false_eq_true, not_true_eq_false, dK_t]
      refine ⟨Reads.refl _, ?_⟩
      refine (awake_ok (G.keeps K5)).use ?_
      rintro _ h6 ⟨rfl, K6⟩
      simp only [wk, wt, wl, ↓reduceIte, Nat.reduceEqDiff, Nat.reduceAdd, Nat.zero_add, not_false_eq_true, not_true_eq_false]
      exact K5.trans K6
  · simp only [wk, wt, wl, ↓reduceIte, Nat.reduceEqDiff, Nat.reduceAdd, Nat.zero_add, not_false_eq_true, not_true_eq_false, RdI.len ha underlying24, RdI.len hb underlying24]
    refine gateO_decF (fun h1 => ?_) (fun h1 => ?_)
    · simp only [wk, wt, wl, ↓reduceIte, Nat.reduceEqDiff, Nat.reduceAdd, Nat.zero_add, not_false_eq_true, not_true_eq_false, h1, RdI.len hb underlying24]
      refine condK_dec (fun h2 => ?_) (fun h2 => ?_)
      · simp only [wk, wt, wl, ↓reduceIte, Nat.reduceEqDiff, Nat.reduceAdd, Nat.zero_add, not_false_eq_true, not_true_eq_false]
        exact Keeps.refl H
      · exact absurd ⟨by omega, by omega⟩ hs
    · simp only [wk, wt, wl, ↓reduceIte, Nat.reduceEqDiff, Nat.reduceAdd, Nat.zero_add, not_false_eq_true, not_true_eq_false, h1]
      exact Keeps.refl H
end Go.Proofs.YtcnjmmffipjadaaDoor.Am
