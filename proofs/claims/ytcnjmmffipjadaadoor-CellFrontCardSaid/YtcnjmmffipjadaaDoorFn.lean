/- The document's Col, At and Columns: contracts, by walks. -/
import Derived.Test.YtcnjmmffipjadaaDoorFm
set_option linter.unusedSimpArgs false
set_option linter.unusedVariables false
set_option maxHeartbeats 4000000
set_option maxRecDepth 20000
namespace Go.Proofs.YtcnjmmffipjadaaDoor.Am
open Go Go.RowKit Go.Proofs.Tryd
def endOf (us : List U) (e : Int) : Int := match us.getLast? with | some u => u.col + u.wd | none => e
theorem endOf_cons {u : U} {us : List U} {e : Int} : endOf (u :: us) e = endOf us (u.col + u.wd) := by
  cases us with
  | nil => rfl
  | cons v us => simp [endOf, List.getLast?_cons]
theorem colOf_at {i : Int} {u : U} : ∀ {us : List U} {j : Nat} {e : Int}, us[j]? = some u → (∀ k v, k < j → us[k]? = some v → ¬ i < v.to) → i < u.to → colOf us i e = (u.col, u.wd)
  | [], j, e, h, _, _ => by simp at h
  | v :: us, 0, e, h, _, hc => by simp at h; subst h; simp [colOf, hc]
  | v :: us, j + 1, e, h, hk, hc => by
    have h0 := hk 0 v (by omega) rfl
    simp only [colOf, h0, if_false]
    exact colOf_at (by simpa using h) (fun k w hlt hw => hk (k + 1) w (by omega) (by simpa using hw)) hc
theorem colOf_none {i : Int} : ∀ {us : List U} {e : Int}, (∀ v, v ∈ us → ¬ i < v.to) → colOf us i e = (endOf us e, 1)
  | [], e, _ => rfl
  | v :: us, e, h => by
    have h0 := h v (by simp)
    simp only [colOf, h0, if_false]
    rw [endOf_cons]
    exact colOf_none fun w hw => h w (by simp [hw])
theorem atOf_at {c n : Int} {u : U} : ∀ {us : List U} {j : Nat}, us[j]? = some u → (∀ k v, k < j → us[k]? = some v → ¬ c < v.col + v.wd) → c < u.col + u.wd → atOf us c n = u.fr
  | [], j, h, _, _ => by simp at h
  | v :: us, 0, h, _, hc => by simp at h; subst h; simp [atOf, hc]
  | v :: us, j + 1, h, hk, hc => by
    have h0 := hk 0 v (by omega) rfl
    simp only [atOf, h0, if_false]
    exact atOf_at (by simpa using h) (fun k w hlt hw => hk (k + 1) w (by omega) (by simpa using hw)) hc
theorem atOf_none {c n : Int} : ∀ {us : List U}, (∀ v, v ∈ us → ¬ c < v.col + v.wd) → atOf us c n = n
  | [], _ => rfl
  | v :: us, h => by
    have h0 := h v (by simp)
    simp only [atOf, h0, if_false]
    exact atOf_none fun w hw => h w (by simp [hw])
theorem colOf_all {line : List Int} {tab : Int} : colOf (unitsL line tab) line.length 0 = (endOf (unitsL line tab) 0, 1) :=
  colOf_none fun v hv => by have := (unitsL_ok (line := line) (tab := tab)).each v hv; omega
theorem refColumns_ok {a : Value} {line : List Int} {tab : Int} {h : Heap} (ha : RdI prog h .i32 a line) (hline : ∀ j, isR (line.getD j 0)) (hlen : line.length ≤ 10000) :
    ACalls prog 24 #[a, .int .i64 tab] h (fun v h' => v = .int .i64 (endOf (unitsL line tab) 0) ∧ Keeps h h') := by
  refine acalls_of_W func24 rfl (by kernel_rfl) (by kernel_rfl) (by simp [ntmps24]) ?_
  simp only [wk, wt, wl, ↓reduceIte, Nat.reduceEqDiff, Nat.reduceAdd, Nat.zero_add, not_false_eq_true, not_true_eq_false]
  refine (refUnits_ok ha hline hlen).use ?_
  rintro l h2 ⟨uv, hu, R, K⟩
  have hul := (unitsL_ok (line := line) (tab := tab)).len
  have hlen' : uv.length = (unitsL line tab).length := by rw [← hu]; simp
  simp only [wk, wt, wl, ↓reduceIte, Nat.reduceEqDiff, Nat.reduceAdd, Nat.zero_add, not_false_eq_true, not_true_eq_false, Rd.len R.rd underlying33]
  refine condK_dec (fun hc => ?_) (fun hc => ?_)
  · simp only [wk, wt, wl, ↓reduceIte, Nat.reduceEqDiff, Nat.reduceAdd, Nat.zero_add, not_false_eq_true, not_true_eq_false]
    have : unitsL line tab = [] := List.eq_nil_of_length_eq_zero (by omega)
    rw [this]
    exact ⟨rfl, K⟩
  · have hne : uv ≠ [] := by intro e; subst e; simp at hc
    obtain ⟨pre, ⟨u, tv⟩, rfl⟩ : ∃ pre x, uv = pre ++ [x] := ⟨uv.dropLast, uv.getLast hne, (List.dropLast_concat_getLast hne).symm⟩
    have hlast : (unitsL line tab).getLast? = some u := by rw [← hu]; simp
    have hb := unit_bounds hlen (List.mem_of_getLast? hlast)
    obtain ⟨F0, F1, F2, F3, F4⟩ := R.field (i := pre.length) (u := u) (tv := tv) (by simp)
    have hll : ((pre ++ [(u, tv)]).length : Int) = (pre.length : Int) + 1 := by simp
    have hp : pre.length + 1 = (unitsL line tab).length := by rw [← hlen']; simp
    have IX : aindexAddr prog 33 l (.int .i64 ((pre.length : Int) + 1 - 1)) = some (.pointer (some (eltA l 5 pre.length))) := by
      have := Rd.index R.rd underlying33 asz36 (q := .i64) (i := (pre.length : Int) + 1 - 1) (by omega) (by simp only [List.length_append, List.length_singleton]; omega)
      rw [show ((pre.length : Int) + 1 - 1).toNat = pre.length by omega] at this; exact this
    simp only [wk, wt, wl, ↓reduceIte, Nat.reduceEqDiff, Nat.reduceAdd, Nat.zero_add, not_false_eq_true, not_true_eq_false]
    refine adraw_order [(0, false), (1, false), (2, false), (3, false), (4, false), (5, false), (6, false), (7, false), (8, false), (9, false), (10, false), (11, false), (12, false), (13, false), (14, false), (15, false)] mixed (by kernel_rfl) (by kernel_rfl) (by kernel_rfl) (by repeat (first | exact PF_retK | refine PF_thenK ?_ | refine PF_blockK ?_)) ?_
    simp (disch := omega) only [wk, wt, wl, ↓reduceIte, Nat.reduceEqDiff, Nat.reduceAdd, Nat.zero_add, not_false_eq_true, not_true_eq_false, Rd.len R.rd underlying33, hll, IX, F2, F3, IntWalk.i64_in]
    refine ⟨?_, K⟩
    rw [show endOf (unitsL line tab) 0 = u.col + u.wd by simp only [endOf, hlast]]
theorem refCol_ok {a : Value} {line : List Int} {tab i : Int} {h : Heap} (ha : RdI prog h .i32 a line) (hline : ∀ j, isR (line.getD j 0)) (hlen : line.length ≤ 10000) :
    ACalls prog 17 #[a, .int .i64 tab, .int .i64 i] h (fun v h' => v = .tuple #[.int .i64 (colOf (unitsL line tab) i 0).1, .int .i64 (colOf (unitsL line tab) i 0).2] ∧ Keeps h h') := by
  refine acalls_of_W func17 rfl (by kernel_rfl) (by kernel_rfl) (by simp [ntmps17]) ?_
  simp only [wk, wt, wl, ↓reduceIte, Nat.reduceEqDiff, Nat.reduceAdd, Nat.zero_add, not_false_eq_true, not_true_eq_false]
  refine (refUnits_ok ha hline hlen).use ?_
  rintro l h2 ⟨uv, hu, R, K⟩
  have hul := (unitsL_ok (line := line) (tab := tab)).len
  have hlen' : uv.length = (unitsL line tab).length := by rw [← hu]; simp
  simp only [wk, wt, wl, ↓reduceIte, Nat.reduceEqDiff, Nat.reduceAdd, Nat.zero_add, not_false_eq_true, not_true_eq_false]
  refine W_loop (fun tm h' => h' = h2 ∧ tm 0 = a ∧ tm 1 = .int .i64 tab ∧ tm 2 = .int .i64 i ∧ tm 8 = l ∧ ∃ j : Nat, tm 9 = .int .i64 j ∧ j ≤ uv.length ∧ ∀ k v, k < j → (unitsL line tab)[k]? = some v → ¬ i < v.to) (fun tm _ => (uv.length - intOf (tm 9)).toNat) ⟨rfl, (by first | rfl | (simp only [wk, wt, wl, ↓reduceIte, Nat.reduceEqDiff, Nat.reduceAdd, Nat.zero_add, not_false_eq_true, not_true_eq_false]; done) | (simp only [wk, wt, wl, ↓reduceIte, Nat.reduceEqDiff, Nat.reduceAdd, Nat.zero_add, not_false_eq_true, not_true_eq_false]; rfl)), (by first | rfl | (simp only [wk, wt, wl, ↓reduceIte, Nat.reduceEqDiff, Nat.reduceAdd, Nat.zero_add, not_false_eq_true, not_true_eq_false]; done) | (simp only [wk, wt, wl, ↓reduceIte, Nat.reduceEqDiff, Nat.reduceAdd, Nat.zero_add, not_false_eq_true, not_true_eq_false]; rfl)), (by first | rfl | (simp only [wk, wt, wl, ↓reduceIte, Nat.reduceEqDiff, Nat.reduceAdd, Nat.zero_add, not_false_eq_true, not_true_eq_false]; done) | (simp only [wk, wt, wl, ↓reduceIte, Nat.reduceEqDiff, Nat.reduceAdd, Nat.zero_add, not_false_eq_true, not_true_eq_false]; rfl)), (by first | rfl | (simp only [wk, wt, wl, ↓reduceIte, Nat.reduceEqDiff, Nat.reduceAdd, Nat.zero_add, not_false_eq_true, not_true_eq_false]; done) | (simp only [wk, wt, wl, ↓reduceIte, Nat.reduceEqDiff, Nat.reduceAdd, Nat.zero_add, not_false_eq_true, not_true_eq_false]; rfl)), 0, (by first | rfl | (simp only [wk, wt, wl, ↓reduceIte, Nat.reduceEqDiff, Nat.reduceAdd, Nat.zero_add, not_false_eq_true, not_true_eq_false]; done) | (simp only [wk, wt, wl, ↓reduceIte, Nat.reduceEqDiff, Nat.reduceAdd, Nat.zero_add, not_false_eq_true, not_true_eq_false]; rfl)), by omega, fun k v hk => by omega⟩ ?_
  rintro tm h' ⟨rfl, t0, t1, t2, t8, j, t9, hj, hall⟩
  simp only [wk, wt, wl, ↓reduceIte, Nat.reduceEqDiff, Nat.reduceAdd, Nat.zero_add, not_false_eq_true, not_true_eq_false, t0, t1, t2, t8, t9, Rd.len R.rd underlying33]
  refine condK_dec (fun hd => ?_) (fun hd => ?_)
  · have hj1 : j < uv.length := by omega
    have hx := units_get hu hj1
    obtain ⟨F0, F1, F2, F3, F4⟩ := R.field (i := j) (u := (uv[j]).1) (tv := (uv[j]).2) (by simp [hj1])
    generalize (uv[j]).1 = u at *
    have IX := Rd.index R.rd underlying33 asz36 (q := .i64) (i := (j : Int)) (by omega) (by omega)
    simp (disch := omega) only [wk, wt, wl, ↓reduceIte, Nat.reduceEqDiff, Nat.reduceAdd, Nat.zero_add, not_false_eq_true, not_true_eq_false, t0, t1, t2, t8, t9, IX, F0, F1]
    refine condK_dec (fun hc => ?_) (fun hc => ?_)
    · simp only [wk, wt, wl, ↓reduceIte, Nat.reduceEqDiff, Nat.reduceAdd, Nat.zero_add, not_false_eq_true, not_true_eq_false, t0, t1, t2, t8, t9]
      refine adraw_order [(0, false), (1, false), (2, false), (3, false), (4, false), (5, false), (6, false), (7, false), (8, false), (9, false), (10, false), (11, false)] mixed (by kernel_rfl) (by kernel_rfl) (by kernel_rfl) (by repeat (first | exact PF_retK | refine PF_thenK ?_ | refine PF_blockK ?_)) ?_
      simp (disch := omega) only [wk, wt, wl, ↓reduceIte, Nat.reduceEqDiff, Nat.reduceAdd, Nat.zero_add, not_false_eq_true, not_true_eq_false, t0, t1, t2, t8, t9, IX, F2, F3]
      rw [colOf_at hx hall hc]
      exact ⟨rfl, K⟩
    · simp (disch := omega) only [wk, wt, wl, ↓reduceIte, Nat.reduceEqDiff, Nat.reduceAdd, Nat.zero_add, not_false_eq_true, not_true_eq_false, t0, t1, t2, t8, t9, IntWalk.i64_in, intOf_int]
      refine ⟨⟨j + 1, by simp, by omega, fun k v hk hv => ?_⟩, by omega⟩
      by_cases e : k = j
      · subst e; rw [hx] at hv; cases hv; exact hc
      · exact hall k v (by omega) hv
  · simp only [wk, wt, wl, ↓reduceIte, Nat.reduceEqDiff, Nat.reduceAdd, Nat.zero_add, not_false_eq_true, not_true_eq_false, t0, t1, t2, t8, t9]
    refine (refColumns_ok (ha.keeps K) hline hlen).use ?_
    rintro _ h3 ⟨rfl, K3⟩
    simp only [wk, wt, wl, ↓reduceIte, Nat.reduceEqDiff, Nat.reduceAdd, Nat.zero_add, not_false_eq_true, not_true_eq_false]
    rw [colOf_none fun v hv => by
      obtain ⟨k, hk⟩ := List.mem_iff_getElem?.1 hv
      have := (List.getElem?_eq_some_iff.1 hk).1
      exact hall k v (by omega) hk]
    exact ⟨rfl, K.trans K3⟩
theorem refAt_ok {a : Value} {line : List Int} {tab i : Int} {h : Heap} (ha : RdI prog h .i32 a line) (hline : ∀ j, isR (line.getD j 0)) (hlen : line.length ≤ 10000) :
    ACalls prog 19 #[a, .int .i64 tab, .int .i64 i] h (fun v h' => v = .int .i64 (atOf (unitsL line tab) i line.length) ∧ Keeps h h') := by
  refine acalls_of_W func19 rfl (by kernel_rfl) (by kernel_rfl) (by simp [ntmps19]) ?_
  simp only [wk, wt, wl, ↓reduceIte, Nat.reduceEqDiff, Nat.reduceAdd, Nat.zero_add, not_false_eq_true, not_true_eq_false]
  refine (refUnits_ok ha hline hlen).use ?_
  rintro l h2 ⟨uv, hu, R, K⟩
  have hul := (unitsL_ok (line := line) (tab := tab)).len
  have hlen' : uv.length = (unitsL line tab).length := by rw [← hu]; simp
  simp only [wk, wt, wl, ↓reduceIte, Nat.reduceEqDiff, Nat.reduceAdd, Nat.zero_add, not_false_eq_true, not_true_eq_false]
  refine W_loop (fun tm h' => h' = h2 ∧ tm 0 = a ∧ tm 2 = .int .i64 i ∧ tm 7 = l ∧ ∃ j : Nat, tm 8 = .int .i64 j ∧ j ≤ uv.length ∧ ∀ k v, k < j → (unitsL line tab)[k]? = some v → ¬ i < v.col + v.wd) (fun tm _ => (uv.length - intOf (tm 8)).toNat) ⟨rfl, (by first | rfl | (simp only [wk, wt, wl, ↓reduceIte, Nat.reduceEqDiff, Nat.reduceAdd, Nat.zero_add, not_false_eq_true, not_true_eq_false]; done) | (simp only [wk, wt, wl, ↓reduceIte, Nat.reduceEqDiff, Nat.reduceAdd, Nat.zero_add, not_false_eq_true, not_true_eq_false]; rfl)), (by first | rfl | (simp only [wk, wt, wl, ↓reduceIte, Nat.reduceEqDiff, Nat.reduceAdd, Nat.zero_add, not_false_eq_true, not_true_eq_false]; done) | (simp only [wk, wt, wl, ↓reduceIte, Nat.reduceEqDiff, Nat.reduceAdd, Nat.zero_add, not_false_eq_true, not_true_eq_false]; rfl)), (by first | rfl | (simp only [wk, wt, wl, ↓reduceIte, Nat.reduceEqDiff, Nat.reduceAdd, Nat.zero_add, not_false_eq_true, not_true_eq_false]; done) | (simp only [wk, wt, wl, ↓reduceIte, Nat.reduceEqDiff, Nat.reduceAdd, Nat.zero_add, not_false_eq_true, not_true_eq_false]; rfl)), 0, (by first | rfl | (simp only [wk, wt, wl, ↓reduceIte, Nat.reduceEqDiff, Nat.reduceAdd, Nat.zero_add, not_false_eq_true, not_true_eq_false]; done) | (simp only [wk, wt, wl, ↓reduceIte, Nat.reduceEqDiff, Nat.reduceAdd, Nat.zero_add, not_false_eq_true, not_true_eq_false]; rfl)), by omega, fun k v hk => by omega⟩ ?_
  rintro tm h' ⟨rfl, t0, t2, t7, j, t8, hj, hall⟩
  simp only [wk, wt, wl, ↓reduceIte, Nat.reduceEqDiff, Nat.reduceAdd, Nat.zero_add, not_false_eq_true, not_true_eq_false, t0, t2, t7, t8, Rd.len R.rd underlying33]
  refine condK_dec (fun hd => ?_) (fun hd => ?_)
  · have hj1 : j < uv.length := by omega
    have hx := units_get hu hj1
    obtain ⟨F0, F1, F2, F3, F4⟩ := R.field (i := j) (u := (uv[j]).1) (tv := (uv[j]).2) (by simp [hj1])
    have hb := unit_bounds hlen (List.mem_of_getElem? hx)
    generalize (uv[j]).1 = u at *
    have IX := Rd.index R.rd underlying33 asz36 (q := .i64) (i := (j : Int)) (by omega) (by omega)
    simp only [wk, wt, wl, ↓reduceIte, Nat.reduceEqDiff, Nat.reduceAdd, Nat.zero_add, not_false_eq_true, not_true_eq_false]
    refine adraw_order [(0, false), (1, false), (2, false), (3, false), (4, false), (5, false), (6, false), (7, false), (8, false), (9, false), (10, false), (11, false), (12, false)] mixed (by kernel_rfl) (by kernel_rfl) (by kernel_rfl) (by repeat (first | exact PF_retK | refine PF_thenK ?_ | refine PF_blockK ?_)) ?_
    simp (disch := omega) only [wk, wt, wl, ↓reduceIte, Nat.reduceEqDiff, Nat.reduceAdd, Nat.zero_add, not_false_eq_true, not_true_eq_false, t0, t2, t7, t8, IX, F2, F3, IntWalk.i64_in]
    refine condK_dec (fun hc => ?_) (fun hc => ?_)
    · simp (disch := omega) only [wk, wt, wl, ↓reduceIte, Nat.reduceEqDiff, Nat.reduceAdd, Nat.zero_add, not_false_eq_true, not_true_eq_false, t0, t2, t7, t8, IX, F0]
      rw [atOf_at hx hall hc]
      exact ⟨rfl, K⟩
    · simp (disch := omega) only [wk, wt, wl, ↓reduceIte, Nat.reduceEqDiff, Nat.reduceAdd, Nat.zero_add, not_false_eq_true, not_true_eq_false, t0, t2, t7, t8, IntWalk.i64_in, intOf_int]
      refine ⟨⟨j + 1, by simp, by omega, fun k v hk hv => ?_⟩, by omega⟩
      by_cases e : k = j
      · subst e; rw [hx] at hv; cases hv; exact hc
      · exact hall k v (by omega) hv
  · simp only [wk, wt, wl, ↓reduceIte, Nat.reduceEqDiff, Nat.reduceAdd, Nat.zero_add, not_false_eq_true, not_true_eq_false, t0, t2, t7, t8, RdI.len (ha.keeps K) underlying24]
    rw [atOf_none fun v hv => by
      obtain ⟨k, hk⟩ := List.mem_iff_getElem?.1 hv
      have := (List.getElem?_eq_some_iff.1 hk).1
      exact hall k v (by omega) hk]
    exact ⟨rfl, K⟩
end Go.Proofs.YtcnjmmffipjadaaDoor.Am
