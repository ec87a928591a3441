/- Two equal rows of units are told equal: the contract of the document's Same, by a walk. -/
import Derived.Test.YtcnjmmffipjadaaDoorFh
set_option linter.unusedSimpArgs false
set_option linter.unusedVariables false
set_option maxHeartbeats 4000000
set_option maxRecDepth 20000
namespace Go.Proofs.YtcnjmmffipjadaaDoor.Am
open Go Go.RowKit Go.Proofs.Tryd
theorem UR.field {h : Heap} {l : Value} {uv : List (U × Value)} (H : UR h l uv) {i : Nat} {u : U} {tv : Value} (hx : uv[i]? = some (u, tv)) :
    aload prog h 3 ⟨(eltA l 5 i).block, (eltA l 5 i).off + 0, none⟩ = some (.int .i64 u.fr) ∧ aload prog h 3 ⟨(eltA l 5 i).block, (eltA l 5 i).off + 1, none⟩ = some (.int .i64 u.to) ∧
    aload prog h 3 ⟨(eltA l 5 i).block, (eltA l 5 i).off + 2, none⟩ = some (.int .i64 u.col) ∧ aload prog h 3 ⟨(eltA l 5 i).block, (eltA l 5 i).off + 3, none⟩ = some (.int .i64 u.wd) ∧
    aload prog h 24 ⟨(eltA l 5 i).block, (eltA l 5 i).off + 4, none⟩ = some tv := by
  have hi := (List.getElem?_eq_some_iff.1 hx).1
  exact ⟨(H.rd.at underlying3 rfl hi (by omega)).trans (cellsU_at hx (by omega)), (H.rd.at underlying3 rfl hi (by omega)).trans (cellsU_at hx (by omega)), (H.rd.at underlying3 rfl hi (by omega)).trans (cellsU_at hx (by omega)),
    (H.rd.at underlying3 rfl hi (by omega)).trans (cellsU_at hx (by omega)), (H.rd.at underlying24 rfl hi (by omega)).trans (cellsU_at hx (by omega))⟩
theorem same_ok {a b : Value} {uv uw : List (U × Value)} {h : Heap} (ha : UR h a uv) (hb : UR h b uw) (he : uv.map (·.1) = uw.map (·.1)) (hlen : uv.length ≤ 100000) (htx : ∀ x, x ∈ uv → x.1.tx.length ≤ 100000) :
    ACalls prog 21 #[a, b] h (fun v h' => v = .bool true ∧ h' = h) := by
  have hl : uw.length = uv.length := by have := congrArg List.length he; simpa using this.symm
  refine acalls_of_W func21 rfl (by kernel_rfl) (by kernel_rfl) (by simp [ntmps21]) ?_
  simp only [wk, wt, wl, ↓reduceIte, Nat.reduceEqDiff, Nat.reduceAdd, Nat.zero_add, not_false_eq_true, not_true_eq_false, Rd.len ha.rd underlying33, Rd.len hb.rd underlying33, hl]
  refine W_loop (fun tm h' => h' = h ∧ tm 0 = a ∧ tm 1 = b ∧ ∃ i : Nat, tm 5 = .int .i64 i ∧ i ≤ uv.length) (fun tm _ => (uv.length - intOf (tm 5)).toNat) ⟨rfl, (by first | rfl | (simp only [wk, wt, wl, ↓reduceIte, Nat.reduceEqDiff, Nat.reduceAdd, Nat.zero_add, not_false_eq_true, not_true_eq_false]; done) | (simp only [wk, wt, wl, ↓reduceIte, Nat.reduceEqDiff, Nat.reduceAdd, Nat.zero_add, not_false_eq_true, not_true_eq_false]; rfl)), (by first | rfl | (simp only [wk, wt, wl, ↓reduceIte, Nat.reduceEqDiff, Nat.reduceAdd, Nat.zero_add, not_false_eq_true, not_true_eq_false]; done) | (simp only [wk, wt, wl, ↓reduceIte, Nat.reduceEqDiff, Nat.reduceAdd, Nat.zero_add, not_false_eq_true, not_true_eq_false]; rfl)), 0, (by first | rfl | (simp only [wk, wt, wl, ↓reduceIte, Nat.reduceEqDiff, Nat.reduceAdd, Nat.zero_add, not_false_eq_true, not_true_eq_false]; done) | (simp only [wk, wt, wl, ↓reduceIte, Nat.reduceEqDiff, Nat.reduceAdd, Nat.zero_add, not_false_eq_true, not_true_eq_false]; rfl)), by omega⟩ ?_
  rintro tm h' ⟨rfl, t0, t1, i, t5, hi⟩
  simp only [wk, wt, wl, ↓reduceIte, Nat.reduceEqDiff, Nat.reduceAdd, Nat.zero_add, not_false_eq_true, not_true_eq_false, t0, t1, t5, Rd.len ha.rd underlying33]
  refine condK_dec (fun hd => ?_) (fun hd => ?_)
  · have hi1 : i < uv.length := by omega
    have hi2 : i < uw.length := by omega
    obtain ⟨⟨u, tv⟩, hx⟩ : ∃ x, uv[i]? = some x := ⟨uv[i], by simp [hi1]⟩
    obtain ⟨⟨u', tw⟩, hy⟩ : ∃ x, uw[i]? = some x := ⟨uw[i], by simp [hi2]⟩
    have hu : u' = u := by
      have := congrArg (fun l => l[i]?) he
      simp only [List.getElem?_map, hx, hy, Option.map_some, Option.some.injEq] at this
      exact this.symm
    subst hu
    obtain ⟨A0, A1, A2, A3, A4⟩ := ha.field hx
    obtain ⟨B0, B1, B2, B3, B4⟩ := hb.field hy
    have ta := ha.txt _ (List.mem_of_getElem? hx)
    have tb := hb.txt _ (List.mem_of_getElem? hy)
    have htl := htx _ (List.mem_of_getElem? hx)
    simp only at ta tb htl
    simp only [wk, wt, wl, ↓reduceIte, Nat.reduceEqDiff, Nat.reduceAdd, Nat.zero_add, not_false_eq_true, not_true_eq_false]
    refine adraw_order [(0, false), (1, false), (2, false), (3, false), (4, false), (5, false), (6, false), (7, false), (8, false), (9, false), (10, false), (11, false), (12, false), (13, false), (14, false), (15, false), (16, false), (17, false), (18, false), (19, false), (20, false), (21, false), (22, false), (23, false), (24, false), (25, false), (26, false), (27, false), (28, false), (29, false), (30, false), (31, false), (32, false), (33, false), (34, false), (35, false), (36, false), (37, false), (38, false), (39, false), (40, false), (41, false), (42, false), (43, false), (44, false), (45, false), (46, false), (47, false), (48, false), (49, false), (50, false), (51, false), (52, false), (53, false), (54, false), (55, false), (56, false), (57, false), (58, false), (59, false), (60, false), (61, true), (62, false), (63, false)] mixed (by kernel_rfl) (by kernel_rfl) (by kernel_rfl) (by repeat (first | exact PF_retK | refine PF_thenK ?_ | refine PF_blockK ?_)) ?_
    simp (disch := omega) only [wk, wt, wl, ↓reduceIte, Nat.reduceEqDiff, Nat.reduceAdd, Nat.zero_add, not_false_eq_true, not_true_eq_false, t0, t1, t5, Rd.index ha.rd underlying33 asz36 (q := .i64) (i := (i : Int)) (by omega) (by omega), Rd.index hb.rd underlying33 asz36 (q := .i64) (i := (i : Int)) (by omega) (by omega), A0, A1, A2, A3, A4, B0, B1, B2, B3, B4, decide_true]
    refine (runes_ok ta tb (by omega)).use_pure ?_
    simp (disch := omega) only [wk, wt, wl, ↓reduceIte, Nat.reduceEqDiff, Nat.reduceAdd, Nat.zero_add, not_false_eq_true, not_true_eq_false, dK_t, t0, t1, t5, IntWalk.i64_in, intOf_int, decide_true]
    exact ⟨Reads.refl _, ⟨i + 1, by simp, by omega⟩, by omega⟩
  · simp only [wk, wt, wl, ↓reduceIte, Nat.reduceEqDiff, Nat.reduceAdd, Nat.zero_add, not_false_eq_true, not_true_eq_false]
end Go.Proofs.YtcnjmmffipjadaaDoor.Am
