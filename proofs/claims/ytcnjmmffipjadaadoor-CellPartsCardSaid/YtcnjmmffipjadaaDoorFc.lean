/- How wide a rune is: the contract of cell.Width, by a walk over its search in the table of ranges. -/
import Derived.Test.YtcnjmmffipjadaaDoorFb
set_option linter.unusedSimpArgs false
set_option linter.unusedVariables false
set_option maxHeartbeats 1000000
namespace Go.Proofs.YtcnjmmffipjadaaDoor.Am
open Go Go.RowKit Go.Proofs.Tryd
def rgs : List (Int × Int × Int) := [(0, 31, 2), (127, 127, 2), (768, 879, 0), (4352, 4447, 2), (8203, 8207, 0), (8400, 8447, 0), (11904, 12350, 2), (12353, 19903, 2), (19968, 42191, 2), (44032, 55203, 2), (63744, 64255, 2), (65024, 65039, 0), (65072, 65135, 2), (65280, 65376, 2), (65504, 65510, 2), (127744, 128591, 2), (129280, 129535, 2), (131072, 262141, 2)]
def rgsV : List Value := rgs.flatMap fun x => [.int .i32 x.1, .int .i32 x.2.1, .int .i32 x.2.2]
def rlo (m : Nat) : Int := (rgs.getD m (0, 0, 0)).1
def rhi (m : Nat) : Int := (rgs.getD m (0, 0, 0)).2.1
def rwd (m : Nat) : Int := (rgs.getD m (0, 0, 0)).2.2
/-- The package's table stands in memory as the program's text lays it. -/
def Gl (h : Heap) : Prop := ∃ k v, h.get 0 = some k ∧ 0 < h.size ∧ k.live = true ∧ k.cells = [v] ∧ Rd prog h 3 v 18 rgsV
theorem Gl.keeps {h h' : Heap} (G : Gl h) (K : Keeps h h') : Gl h' := by
  obtain ⟨k, v, h1, h2, h3, h4, h5⟩ := G
  exact ⟨k, v, (K.at h2).trans h1, Nat.lt_of_lt_of_le h2 (Ch.le K), h3, h4, h5.keeps K⟩
theorem rgsV_at : ∀ m : Fin 18, rgsV[m.val * 3 + 0]? = some (.int .i32 (rlo m)) ∧ rgsV[m.val * 3 + 1]? = some (.int .i32 (rhi m)) ∧ rgsV[m.val * 3 + 2]? = some (.int .i32 (rwd m)) := by
  intro m
  have : ∀ n, n < 18 → rgsV[n * 3 + 0]? = some (.int .i32 (rlo n)) ∧ rgsV[n * 3 + 1]? = some (.int .i32 (rhi n)) ∧ rgsV[n * 3 + 2]? = some (.int .i32 (rwd n)) := by
    intro n hn
    iterate 18 (cases n with | zero => exact ⟨rfl, rfl, rfl⟩ | succ n => ?_)
    omega
  exact this m.val m.isLt
theorem rgs_sorted : ∀ i j : Fin 18, i.val < j.val → rhi i < rlo j ∧ rlo i ≤ rlo j ∧ rhi i ≤ rhi j := by decide
theorem rgs_range : ∀ i : Fin 18, rlo i ≤ rhi i ∧ 0 ≤ rwd i ∧ rwd i ≤ 2 := by decide
theorem width_in {r : Int} {m : Nat} (hm : m < 18) (h1 : rlo m ≤ r) (h2 : r ≤ rhi m) : widthZ r = rwd m := by
  have key : ∀ n, n < 18 → rlo n ≤ r → r ≤ rhi n → widthZ r = rwd n := by
    intro n hn g1 g2
    iterate 18 (cases n with | zero => (simp only [rlo, rhi, rwd, rgs, List.getD_cons_zero, List.getD_cons_succ] at g1 g2 ⊢; simp only [widthZ, zeroB, wideB, ctlB, decide_eq_true_eq]; first | (rw [if_pos (by omega)]; done) | (rw [if_neg (by omega), if_pos (by omega)]; done)) | succ n => ?_)
    omega
  exact key m hm h1 h2
theorem width_out {r : Int} (h : ∀ m, m < 18 → r < rlo m ∨ rhi m < r) : widthZ r = 1 := by
  have h0 := h 0 (by omega); have h1 := h 1 (by omega); have h2 := h 2 (by omega); have h3 := h 3 (by omega); have h4 := h 4 (by omega); have h5 := h 5 (by omega)
  have h6 := h 6 (by omega); have h7 := h 7 (by omega); have h8 := h 8 (by omega); have h9 := h 9 (by omega); have h10 := h 10 (by omega); have h11 := h 11 (by omega)
  have h12 := h 12 (by omega); have h13 := h 13 (by omega); have h14 := h 14 (by omega); have h15 := h 15 (by omega); have h16 := h 16 (by omega); have h17 := h 17 (by omega)
  clear h
  simp only [rlo, rhi, rgs, List.getD_cons_zero, List.getD_cons_succ] at *
  simp only [widthZ, zeroB, wideB, ctlB, decide_eq_true_eq]
  rw [if_neg (by omega), if_neg (by omega)]
theorem width_ok {r : Int} {h : Heap} (h0 : isR r) (G : Gl h) : ACalls prog 10 #[.int .i32 r] h (fun v h' => v = .int .i64 (widthZ r) ∧ h' = h) := by
  obtain ⟨k, g, g1, g2, g3, g4, g5⟩ := G
  have GL : aload prog h 41 ⟨0, 0, none⟩ = some g := by simp [aload, g1, g3, g4, underlying41, isAggD]
  have AT : ∀ m : Nat, m < 18 → aload prog h 21 ⟨(eltA g 3 m).block, (eltA g 3 m).off + 0, none⟩ = some (.int .i32 (rlo m)) ∧ aload prog h 21 ⟨(eltA g 3 m).block, (eltA g 3 m).off + 1, none⟩ = some (.int .i32 (rhi m)) ∧ aload prog h 21 ⟨(eltA g 3 m).block, (eltA g 3 m).off + 2, none⟩ = some (.int .i32 (rwd m)) := fun m hm => by
    have := rgsV_at ⟨m, hm⟩
    exact ⟨(g5.at underlying21 rfl hm (by omega)).trans this.1, (g5.at underlying21 rfl hm (by omega)).trans this.2.1, (g5.at underlying21 rfl hm (by omega)).trans this.2.2⟩
  refine acalls_of_W func10 rfl (by kernel_rfl) (by kernel_rfl) (by simp [ntmps10]) ?_
  simp only [wk, wt, wl, ↓reduceIte, Nat.reduceEqDiff, Nat.reduceAdd, Nat.zero_add, not_false_eq_true, not_true_eq_false]
  refine adraw_order [(0, false), (1, false), (2, false), (3, false)] mixed (by kernel_rfl) (by kernel_rfl) (by kernel_rfl) (by repeat (first | exact PF_retK | refine PF_thenK ?_ | refine PF_blockK ?_)) ?_
  simp only [wk, wt, wl, ↓reduceIte, Nat.reduceEqDiff, Nat.reduceAdd, Nat.zero_add, not_false_eq_true, not_true_eq_false, GL, Rd.len g5 underlying41]
  refine W_loop (fun tm h' => h' = h ∧ tm 0 = .int .i32 r ∧ ∃ lo hi : Int, tm 3 = .int .i64 lo ∧ tm 4 = .int .i64 hi ∧ 0 ≤ lo ∧ lo ≤ hi ∧ hi ≤ 18 ∧ (∀ j : Nat, (j : Int) < lo → rhi j < r) ∧ (∀ j : Nat, hi ≤ j → j < 18 → r < rlo j)) (fun tm _ => (intOf (tm 4) - intOf (tm 3)).toNat) ⟨rfl, (by first | rfl | (simp only [wk, wt, wl, ↓reduceIte, Nat.reduceEqDiff, Nat.reduceAdd, Nat.zero_add, not_false_eq_true, not_true_eq_false]; done) | (simp only [wk, wt, wl, ↓reduceIte, Nat.reduceEqDiff, Nat.reduceAdd, Nat.zero_add, not_false_eq_true, not_true_eq_false]; rfl)), 0, 18, (by first | rfl | (simp only [wk, wt, wl, ↓reduceIte, Nat.reduceEqDiff, Nat.reduceAdd, Nat.zero_add, not_false_eq_true, not_true_eq_false]; done) | (simp only [wk, wt, wl, ↓reduceIte, Nat.reduceEqDiff, Nat.reduceAdd, Nat.zero_add, not_false_eq_true, not_true_eq_false]; rfl)), (by first | rfl | (simp only [wk, wt, wl, ↓reduceIte, Nat.reduceEqDiff, Nat.reduceAdd, Nat.zero_add, not_false_eq_true, not_true_eq_false]; done) | (simp only [wk, wt, wl, ↓reduceIte, Nat.reduceEqDiff, Nat.reduceAdd, Nat.zero_add, not_false_eq_true, not_true_eq_false]; rfl)), by omega, by omega, by omega, fun j hj => by omega, fun j hj hk => by omega⟩ ?_
  rintro tm h' ⟨rfl, t0, lo, hi, t3, t4, b0, b1, b2, i1, i2⟩
  simp only [wk, wt, wl, ↓reduceIte, Nat.reduceEqDiff, Nat.reduceAdd, Nat.zero_add, not_false_eq_true, not_true_eq_false, t0, t3, t4]
  refine condK_dec (fun hc => ?_) (fun hc => ?_)
  · obtain ⟨m, hm⟩ : ∃ m : Nat, (lo + hi) / 2 = m := ⟨((lo + hi) / 2).toNat, by omega⟩
    have hm18 : m < 18 := by omega
    obtain ⟨A0, A1, A2⟩ := AT m hm18
    simp (disch := omega) only [wk, wt, wl, ↓reduceIte, Nat.reduceEqDiff, Nat.reduceAdd, Nat.zero_add, not_false_eq_true, not_true_eq_false, t0, t3, t4, abin_quo (P := prog) (y := 2) (by decide), IntWalk.i64_in, Int.tdiv_eq_ediv_of_nonneg]
    simp only [hm]
    simp (disch := omega) only [wk, wt, wl, ↓reduceIte, Nat.reduceEqDiff, Nat.reduceAdd, Nat.zero_add, not_false_eq_true, not_true_eq_false, GL, A0, A1, A2, Rd.index g5 underlying41 asz42 (q := .i64) (i := (m : Int)) (by omega) (by omega), arr_index underlying42 asz21, Int.reduceToNat]
    have srt : ∀ i j : Nat, i < 18 → j < 18 → i < j → rhi i < rlo j ∧ rlo i ≤ rlo j ∧ rhi i ≤ rhi j := fun i j hi hj hij => rgs_sorted ⟨i, hi⟩ ⟨j, hj⟩ hij
    refine condK_dec (fun hd => ?_) (fun hd => ?_)
    · simp only [wk, wt, wl, ↓reduceIte, Nat.reduceEqDiff, Nat.reduceAdd, Nat.zero_add, not_false_eq_true, not_true_eq_false, intOf_int]
      refine ⟨⟨t0, lo, m, t3, rfl, b0, by omega, by omega, i1, fun j hj hk => ?_⟩, by rw [t3]; simp only [intOf_int]; omega⟩
      by_cases e : j = m
      · subst e; exact hd
      · have := (srt m j (by omega) hk (by omega)).2.1; omega
    · simp (disch := omega) only [wk, wt, wl, ↓reduceIte, Nat.reduceEqDiff, Nat.reduceAdd, Nat.zero_add, not_false_eq_true, not_true_eq_false, t0, t3, t4, GL, A0, A1, A2, Rd.index g5 underlying41 asz42 (q := .i64) (i := (m : Int)) (by omega) (by omega), arr_index underlying42 asz21, Int.reduceToNat]
      refine condK_dec (fun he => ?_) (fun he => ?_)
      · simp (disch := omega) only [wk, wt, wl, ↓reduceIte, Nat.reduceEqDiff, Nat.reduceAdd, Nat.zero_add, not_false_eq_true, not_true_eq_false, intOf_int, IntWalk.i64_in]
        refine ⟨⟨t0, m + 1, hi, rfl, t4, by omega, by omega, by omega, fun j hj => ?_, i2⟩, by rw [t4]; simp only [intOf_int]; omega⟩
        by_cases e : j = m
        · subst e; exact he
        · have := (srt j m (by omega) (by omega) (by omega)).2.2; omega
      · have hr := rgs_range ⟨m, hm18⟩
        simp only at hr
        simp (disch := omega) only [wk, wt, wl, ↓reduceIte, Nat.reduceEqDiff, Nat.reduceAdd, Nat.zero_add, not_false_eq_true, not_true_eq_false, t0, t3, t4, GL, A0, A1, A2, Rd.index g5 underlying41 asz42 (q := .i64) (i := (m : Int)) (by omega) (by omega), arr_index underlying42 asz21, Int.reduceToNat, aconv, IntWalk.i64_in]
        rw [width_in hm18 (by omega) (by omega)]
        exact ⟨rfl, trivial⟩
  · simp only [wk, wt, wl, ↓reduceIte, Nat.reduceEqDiff, Nat.reduceAdd, Nat.zero_add, not_false_eq_true, not_true_eq_false]
    rw [width_out fun m hm => ?_]
    · exact ⟨rfl, trivial⟩
    · by_cases e : (m : Int) < lo
      · exact .inr (i1 m e)
      · exact .inl (i2 m (by omega) hm)
end Go.Proofs.YtcnjmmffipjadaaDoor.Am
