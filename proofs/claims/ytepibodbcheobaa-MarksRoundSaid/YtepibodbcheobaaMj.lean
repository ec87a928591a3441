/- MarksRound told of abstract memory: it answers true. -/
import Derived.Test.YtepibodbcheobaaMh
set_option linter.unusedSimpArgs false
set_option linter.unusedVariables false
set_option maxHeartbeats 4000000
set_option maxRecDepth 20000
namespace Go.Proofs.Ytepibodbcheobaa.Am
open Go Go.RowKit Go.Proofs.Try
def mkL (n : Nat) : List (Int × Int) := (List.range n).map fun j : Nat => (3 * (j : Int), (j : Int))
def mkJ (n : Nat) : List (Int × Int) := mkL n ++ [(1000, 5)]
theorem mkL_len {n : Nat} : (mkL n).length = n := by simp [mkL]
theorem mkJ_len {n : Nat} : (mkJ n).length = n + 1 := by simp [mkJ, mkL_len]
theorem mkL_succ {n : Nat} : mkL (n + 1) = mkL n ++ [(3 * (n : Int), (n : Int))] := by simp [mkL, List.range_succ]
theorem mkL_mem {n : Nat} {x : Int × Int} (h : x ∈ mkL n) : ∃ j : Nat, j < n ∧ x = (3 * (j : Int), (j : Int)) := by
  simp only [mkL, List.mem_map, List.mem_range] at h
  obtain ⟨j, h1, rfl⟩ := h
  exact ⟨j, h1, rfl⟩
theorem mkJ_at {n k : Nat} (h : k < n) : (mkJ n).getD k (0, 0) = (3 * (k : Int), (k : Int)) := by
  have : (mkJ n)[k]? = some (3 * (k : Int), (k : Int)) := by
    unfold mkJ
    rw [List.getElem?_append_left (by rw [mkL_len]; exact h)]
    simp [mkL, h]
  simp [List.getD, this]
theorem mkJ_last {n : Nat} : (mkJ n).getD n (0, 0) = (1000, 5) := by
  have : (mkJ n)[n]? = some (1000, 5) := by
    unfold mkJ
    rw [List.getElem?_append_right (by rw [mkL_len]; exact Nat.le_refl _)]
    simp [mkL_len]
  simp [List.getD, this]
theorem pushL_new {n : Nat} {a c : Int} (hn : n ≤ 99) (ha : ∀ j : Nat, j < n → 3 * (j : Int) ≠ a) : pushL (mkL n) a c = mkL n ++ [(a, c)] := by
  unfold pushL
  rw [filter_none fun x hx => by obtain ⟨j, h1, rfl⟩ := mkL_mem hx; exact ha j h1]
  rw [show (mkL n ++ [(a, c)]).length - 100 = 0 by simp [mkL_len]; omega]
  rfl
theorem fits_small {a c : Int} (h1 : 0 ≤ a) (h2 : 0 ≤ c) (h3 : a ≤ 1073741824) (h4 : c ≤ 1073741824) : fitsB a c = true := by
  have M1 := imin_spec a c
  have M2 := imax_spec a c
  unfold fitsB
  simp only [Bool.and_eq_true, decide_eq_true_eq]
  omega
theorem pushM {n : Nat} (hn : n < 99) : pushS (mkL n) (n : Int) (3 * (n : Int)) (n : Int) = (mkL (n + 1), ((n + 1 : Nat) : Int)) := by
  unfold pushS
  rw [if_pos (fits_small (by omega) (by omega) (by omega) (by omega)), pushL_new (by omega) (fun j hj => by omega), ← mkL_succ, mkL_len]
theorem pushH {n : Nat} (hn : n ≤ 99) : pushS (mkL n) (n : Int) 1000 5 = (mkJ n, ((n + 1 : Nat) : Int)) := by
  unfold pushS
  rw [if_pos (fits_small (by omega) (by omega) (by omega) (by omega)), pushL_new hn (fun j hj => by omega)]
  show (mkJ n, ((mkJ n).length : Int)) = _
  rw [mkJ_len]
theorem backM {N k : Nat} {jl : List (Int × Int)} {ix : Int} (hN : N ≤ 99) (h1 : 1 ≤ k) (hs : (k = N ∧ jl = mkL N ∧ ix = (N : Int)) ∨ (k < N ∧ jl = mkJ N ∧ ix = (k : Int))) :
    backV jl ix 1000 5 = moveV ((3 * ((k : Int) - 1), (k : Int) - 1), true) ∧ (backS jl ix 1000 5).1 = mkJ N ∧ backI jl ix 1000 5 = (k : Int) - 1 := by
  have key : backS jl ix 1000 5 = (mkJ N, (k : Int)) := by
    rcases hs with ⟨rfl, rfl, rfl⟩ | ⟨h2, rfl, rfl⟩
    · unfold backS
      rw [if_pos (by rw [mkL_len]), pushH hN]
      simp only [mkJ_len]
      have M := imax_spec 0 (((k + 1 : Nat) : Int) - 1)
      congr 1
      omega
    · unfold backS
      rw [if_neg (by rw [mkJ_len]; omega)]
  have hk : ((k : Int) - 1).toNat = k - 1 := by omega
  have hkN : k - 1 < N := by rcases hs with ⟨rfl, _⟩ | ⟨h2, _⟩ <;> omega
  refine ⟨?_, by rw [key], ?_⟩
  · unfold backV
    rw [key]
    simp only
    rw [if_neg (by omega), hk, mkJ_at hkN, show ((k - 1 : Nat) : Int) = (k : Int) - 1 by omega]
  · unfold backI
    rw [key]
    simp only
    rw [if_neg (by omega)]
theorem forthM {N k : Nat} (hk : k < N) (h1 : 1 ≤ k) : forthV (mkJ N) ((k : Int) - 1) = moveV ((3 * (k : Int), (k : Int)), true) ∧ forthI (mkJ N) ((k : Int) - 1) = (k : Int) := by
  have e1 : (k : Int) - 1 + 1 = k := by omega
  unfold forthV forthI
  rw [if_neg (by rw [mkJ_len]; omega), if_neg (by rw [mkJ_len]; omega), e1, Int.toNat_natCast, mkJ_at hk]
  exact ⟨rfl, rfl⟩
theorem forthE {N : Nat} (h1 : 1 ≤ N) : forthV (mkJ N) ((N : Int) - 1) = moveV ((1000, 5), true) ∧ forthI (mkJ N) ((N : Int) - 1) = (N : Int) := by
  have e1 : (N : Int) - 1 + 1 = N := by omega
  unfold forthV forthI
  rw [if_neg (by rw [mkJ_len]; omega), if_neg (by rw [mkJ_len]; omega), e1, Int.toNat_natCast, mkJ_last]
  exact ⟨rfl, rfl⟩
theorem forthN {N : Nat} : forthV (mkJ N) (N : Int) = moveV ((0, 0), false) := by
  unfold forthV
  rw [if_pos (by rw [mkJ_len]; omega)]
theorem neq_pos {x y : Int} : abin prog .neq 23 (.agg #[.int .i64 x, .int .i64 y]) (.agg #[.int .i64 x, .int .i64 y]) = some (.bool false) := by
  simp [abin, aeq, underlying23, stood_pos, guard_pos, aeqF, apart, aeq1, wt, isAggD]
theorem marksRound_law {n : Int} {h : Heap} : ACalls prog 5 #[.int .i64 n] h (fun y h' => y = .bool true ∧ Keeps h h') := by
  refine acalls_of_W' func5 rfl (by kernel_rfl) (by kernel_rfl) (by simp [ntmps5]) ?_
  intro H
  obtain ⟨N, hN, hN1, hN9⟩ : ∃ N : Nat, imax 1 (imin n 99) = (N : Int) ∧ 1 ≤ N ∧ N ≤ 99 := by
    have M1 := imin_spec n 99
    have M2 := imax_spec 1 (imin n 99)
    exact ⟨(imax 1 (imin n 99)).toNat, by omega, by omega, by omega⟩
  have PN := fun {a : Addr} => ptr_some (P := prog) (a := a) underlying32
  simp only [wk, wt, wl, ↓reduceIte, Nat.reduceEqDiff, Nat.reduceAdd, Nat.zero_add, not_false_eq_true, not_true_eq_false, mnV, mxV, hN]
  refine (St.new (Keeps.refl H)).use ?_
  rintro _ h1 ⟨b, r, jv, rfl, S1⟩
  simp only [wk, wt, wl, ↓reduceIte, Nat.reduceEqDiff, Nat.reduceAdd, Nat.zero_add, not_false_eq_true, not_true_eq_false, PN, pt]
  refine W_loop (fun tm h' => tm 0 = .int .i64 N ∧ tm 3 = pt b ∧ ∃ (i : Nat) (jv' : Value), tm 4 = .int .i64 i ∧ i ≤ N ∧ St h h' b r jv' (mkL i) i [] []) (fun tm _ => (N - intOf (tm 4)).toNat) ⟨(by first | rfl | (simp only [wk, wt, wl, ↓reduceIte, Nat.reduceEqDiff, Nat.reduceAdd, Nat.zero_add, not_false_eq_true, not_true_eq_false]; done) | (simp only [wk, wt, wl, ↓reduceIte, Nat.reduceEqDiff, Nat.reduceAdd, Nat.zero_add, not_false_eq_true, not_true_eq_false]; rfl)), (by first | rfl | (simp only [wk, wt, wl, ↓reduceIte, Nat.reduceEqDiff, Nat.reduceAdd, Nat.zero_add, not_false_eq_true, not_true_eq_false]; done) | (simp only [wk, wt, wl, ↓reduceIte, Nat.reduceEqDiff, Nat.reduceAdd, Nat.zero_add, not_false_eq_true, not_true_eq_false]; rfl)), 0, jv, (by first | rfl | (simp only [wk, wt, wl, ↓reduceIte, Nat.reduceEqDiff, Nat.reduceAdd, Nat.zero_add, not_false_eq_true, not_true_eq_false]; done) | (simp only [wk, wt, wl, ↓reduceIte, Nat.reduceEqDiff, Nat.reduceAdd, Nat.zero_add, not_false_eq_true, not_true_eq_false]; rfl)), by omega, S1⟩ ?_
  rintro tm h' ⟨t0, t3, i, jv', t4, hi, S⟩
  simp only [wk, wt, wl, ↓reduceIte, Nat.reduceEqDiff, Nat.reduceAdd, Nat.zero_add, not_false_eq_true, not_true_eq_false, t0, t3, t4]
  refine condK_dec (fun hd => ?_) (fun hd => ?_)
  · simp (disch := omega) only [wk, wt, wl, ↓reduceIte, Nat.reduceEqDiff, Nat.reduceAdd, Nat.zero_add, not_false_eq_true, not_true_eq_false, t0, t3, t4, build_p2, IntWalk.i64_in]
    refine (S.push (3 * (i : Int)) i).use ?_
    rintro _ h2 ⟨rfl, jv2, S2⟩
    rw [pushM (by omega)] at S2
    simp (disch := omega) only [wk, wt, wl, ↓reduceIte, Nat.reduceEqDiff, Nat.reduceAdd, Nat.zero_add, not_false_eq_true, not_true_eq_false, t0, t3, t4, IntWalk.i64_in, intOf_int]
    refine ⟨⟨i + 1, jv2, by simp, by omega, S2⟩, by omega⟩
  · obtain rfl : i = N := by omega
    obtain ⟨h3, e3, S3⟩ := S.pos 1000 5
    simp (disch := omega) only [wk, wt, wl, ↓reduceIte, Nat.reduceEqDiff, Nat.reduceAdd, Nat.zero_add, not_false_eq_true, not_true_eq_false, t0, t3, t4, build_p2, zero_p, e3, IntWalk.i64_in]
    refine W_loop (fun tm hh => tm 0 = .int .i64 i ∧ tm 3 = pt b ∧ tm 5 = pt h'.size ∧ ∃ (k : Nat) (jw : Value) (jl : List (Int × Int)) (ix : Int) (L : List (Nat × List Value)), tm 6 = .int .i64 ((k : Int) - 1) ∧ k ≤ i ∧ (k = i ∧ jl = mkL i ∧ ix = (i : Int) ∨ k < i ∧ jl = mkJ i ∧ ix = (k : Int)) ∧ St h hh b r jw jl ix [] L ∧ (h'.size, [Value.int .i64 1000, Value.int .i64 5]) ∈ L)
      (fun tm _ => (intOf (tm 6) + 1).toNat) ⟨(by first | rfl | (simp only [wk, wt, wl, ↓reduceIte, Nat.reduceEqDiff, Nat.reduceAdd, Nat.zero_add, not_false_eq_true, not_true_eq_false]; done) | (simp only [wk, wt, wl, ↓reduceIte, Nat.reduceEqDiff, Nat.reduceAdd, Nat.zero_add, not_false_eq_true, not_true_eq_false]; rfl) | (simp only [wk, wt, wl, ↓reduceIte, Nat.reduceEqDiff, Nat.reduceAdd, Nat.zero_add, not_false_eq_true, not_true_eq_false, t0]; done) | (simp only [wk, wt, wl, ↓reduceIte, Nat.reduceEqDiff, Nat.reduceAdd, Nat.zero_add, not_false_eq_true, not_true_eq_false, t0]; rfl)), (by first | rfl | (simp only [wk, wt, wl, ↓reduceIte, Nat.reduceEqDiff, Nat.reduceAdd, Nat.zero_add, not_false_eq_true, not_true_eq_false]; done) | (simp only [wk, wt, wl, ↓reduceIte, Nat.reduceEqDiff, Nat.reduceAdd, Nat.zero_add, not_false_eq_true, not_true_eq_false]; rfl) | (simp only [wk, wt, wl, ↓reduceIte, Nat.reduceEqDiff, Nat.reduceAdd, Nat.zero_add, not_false_eq_true, not_true_eq_false, t3]; done) | (simp only [wk, wt, wl, ↓reduceIte, Nat.reduceEqDiff, Nat.reduceAdd, Nat.zero_add, not_false_eq_true, not_true_eq_false, t3]; rfl)), (by first | rfl | (simp only [wk, wt, wl, ↓reduceIte, Nat.reduceEqDiff, Nat.reduceAdd, Nat.zero_add, not_false_eq_true, not_true_eq_false]; done) | (simp only [wk, wt, wl, ↓reduceIte, Nat.reduceEqDiff, Nat.reduceAdd, Nat.zero_add, not_false_eq_true, not_true_eq_false]; rfl)), i, jv', mkL i, i, _, (by first | rfl | (simp only [wk, wt, wl, ↓reduceIte, Nat.reduceEqDiff, Nat.reduceAdd, Nat.zero_add, not_false_eq_true, not_true_eq_false]; done) | (simp only [wk, wt, wl, ↓reduceIte, Nat.reduceEqDiff, Nat.reduceAdd, Nat.zero_add, not_false_eq_true, not_true_eq_false]; rfl)), by omega, .inl ⟨rfl, rfl, rfl⟩, S3, by simp⟩ ?_
    rintro tm h4 ⟨t0, t3, t5, k, jw, jl, ix, L, t6, hk, hs, S4, hL⟩
    simp only [wk, wt, wl, ↓reduceIte, Nat.reduceEqDiff, Nat.reduceAdd, Nat.zero_add, not_false_eq_true, not_true_eq_false, t0, t3, t5, t6]
    refine condK_dec (fun hd => ?_) (fun hd => ?_)
    · have hk1 : 1 ≤ k := by omega
      obtain ⟨b1, b2, b3⟩ := backM hN9 hk1 hs
      have LH := S4.load hL
      simp only [wk, wt, wl, ↓reduceIte, Nat.reduceEqDiff, Nat.reduceAdd, Nat.zero_add, not_false_eq_true, not_true_eq_false, t0, t3, t5, t6, pt, LH]
      refine (S4.back 1000 5).use ?_
      rintro _ h5 ⟨rfl, jw5, S5⟩
      rw [b2, b3] at S5
      rw [b1]
      obtain ⟨h6, e6, S6⟩ := S5.pos (3 * ((k : Int) - 1)) ((k : Int) - 1)
      simp (disch := omega) only [wk, wt, wl, ↓reduceIte, Nat.reduceEqDiff, Nat.reduceAdd, Nat.zero_add, not_false_eq_true, not_true_eq_false, t0, t3, t5, t6, moveV, posV, zero_p, e6, Bool.not_true, S6.load (p := h5.size) (x := 3 * ((k : Int) - 1)) (y := (k : Int) - 1) (by simp), build_p2, neq_pos, IntWalk.i64_in, intOf_int]
      refine ⟨⟨rfl, rfl, k - 1, jw5, mkJ i, (k : Int) - 1, _, by congr 1; omega, by omega, .inr ⟨by omega, rfl, by omega⟩, S6, List.mem_cons_of_mem _ hL⟩, by omega⟩
    · obtain rfl : k = 0 := by omega
      obtain ⟨_, rfl, rfl⟩ : 0 < i ∧ jl = mkJ i ∧ ix = ((0 : Nat) : Int) := by
        rcases hs with ⟨e, _⟩ | hs
        · omega
        · exact hs
      simp only [wk, wt, wl, ↓reduceIte, Nat.reduceEqDiff, Nat.reduceAdd, Nat.zero_add, not_false_eq_true, not_true_eq_false, t0, t3, t5, t6]
      refine W_loop (fun tm hh => tm 0 = .int .i64 i ∧ tm 3 = pt b ∧ tm 5 = pt h'.size ∧ ∃ (k : Nat) (jw : Value) (L : List (Nat × List Value)), tm 9 = .int .i64 (k : Int) ∧ 1 ≤ k ∧ k ≤ i ∧ St h hh b r jw (mkJ i) ((k : Int) - 1) [] L ∧ (h'.size, [Value.int .i64 1000, Value.int .i64 5]) ∈ L)
        (fun tm _ => (i - intOf (tm 9)).toNat) ⟨(by first | rfl | (simp only [wk, wt, wl, ↓reduceIte, Nat.reduceEqDiff, Nat.reduceAdd, Nat.zero_add, not_false_eq_true, not_true_eq_false]; done) | (simp only [wk, wt, wl, ↓reduceIte, Nat.reduceEqDiff, Nat.reduceAdd, Nat.zero_add, not_false_eq_true, not_true_eq_false]; rfl) | (simp only [wk, wt, wl, ↓reduceIte, Nat.reduceEqDiff, Nat.reduceAdd, Nat.zero_add, not_false_eq_true, not_true_eq_false, t0]; done) | (simp only [wk, wt, wl, ↓reduceIte, Nat.reduceEqDiff, Nat.reduceAdd, Nat.zero_add, not_false_eq_true, not_true_eq_false, t0]; rfl)), (by first | rfl | (simp only [wk, wt, wl, ↓reduceIte, Nat.reduceEqDiff, Nat.reduceAdd, Nat.zero_add, not_false_eq_true, not_true_eq_false]; done) | (simp only [wk, wt, wl, ↓reduceIte, Nat.reduceEqDiff, Nat.reduceAdd, Nat.zero_add, not_false_eq_true, not_true_eq_false]; rfl) | (simp only [wk, wt, wl, ↓reduceIte, Nat.reduceEqDiff, Nat.reduceAdd, Nat.zero_add, not_false_eq_true, not_true_eq_false, t3]; done) | (simp only [wk, wt, wl, ↓reduceIte, Nat.reduceEqDiff, Nat.reduceAdd, Nat.zero_add, not_false_eq_true, not_true_eq_false, t3]; rfl)), (by first | rfl | (simp only [wk, wt, wl, ↓reduceIte, Nat.reduceEqDiff, Nat.reduceAdd, Nat.zero_add, not_false_eq_true, not_true_eq_false]; done) | (simp only [wk, wt, wl, ↓reduceIte, Nat.reduceEqDiff, Nat.reduceAdd, Nat.zero_add, not_false_eq_true, not_true_eq_false]; rfl) | (simp only [wk, wt, wl, ↓reduceIte, Nat.reduceEqDiff, Nat.reduceAdd, Nat.zero_add, not_false_eq_true, not_true_eq_false, t5]; done) | (simp only [wk, wt, wl, ↓reduceIte, Nat.reduceEqDiff, Nat.reduceAdd, Nat.zero_add, not_false_eq_true, not_true_eq_false, t5]; rfl)), 1, jw, _, (by first | rfl | (simp only [wk, wt, wl, ↓reduceIte, Nat.reduceEqDiff, Nat.reduceAdd, Nat.zero_add, not_false_eq_true, not_true_eq_false]; done) | (simp only [wk, wt, wl, ↓reduceIte, Nat.reduceEqDiff, Nat.reduceAdd, Nat.zero_add, not_false_eq_true, not_true_eq_false]; rfl)), by omega, by omega, S4, hL⟩ ?_
      rintro tm h5 ⟨t0, t3, t5, k, jw5, L5, t9, hk1, hk, S5, hL5⟩
      simp only [wk, wt, wl, ↓reduceIte, Nat.reduceEqDiff, Nat.reduceAdd, Nat.zero_add, not_false_eq_true, not_true_eq_false, t0, t3, t5, t9]
      refine condK_dec (fun hd => ?_) (fun hd => ?_)
      · obtain ⟨f1, f2⟩ := forthM (N := i) (k := k) (by omega) hk1
        simp only [wk, wt, wl, ↓reduceIte, Nat.reduceEqDiff, Nat.reduceAdd, Nat.zero_add, not_false_eq_true, not_true_eq_false, t0, t3, t5, t9, pt]
        refine (S5.forth).use ?_
        rintro _ h6 ⟨rfl, S6⟩
        rw [f2] at S6
        rw [f1]
        obtain ⟨h7, e7, S7⟩ := S6.pos (3 * (k : Int)) (k : Int)
        simp (disch := omega) only [wk, wt, wl, ↓reduceIte, Nat.reduceEqDiff, Nat.reduceAdd, Nat.zero_add, not_false_eq_true, not_true_eq_false, t0, t3, t5, t9, moveV, posV, zero_p, e7, Bool.not_true, S7.load (p := h6.size) (x := 3 * (k : Int)) (y := (k : Int)) (by simp), build_p2, neq_pos, IntWalk.i64_in, intOf_int]
        refine ⟨⟨rfl, rfl, k + 1, jw5, _, by simp, by omega, by omega, by rw [show ((k + 1 : Nat) : Int) - 1 = (k : Int) by omega]; exact S7, List.mem_cons_of_mem _ hL5⟩, by omega⟩
      · obtain rfl : k = i := by omega
        obtain ⟨f1, f2⟩ := forthE (N := k) hk1
        simp only [wk, wt, wl, ↓reduceIte, Nat.reduceEqDiff, Nat.reduceAdd, Nat.zero_add, not_false_eq_true, not_true_eq_false, t0, t3, t5, t9, pt]
        refine (S5.forth).use ?_
        rintro _ h6 ⟨rfl, S6⟩
        rw [f2] at S6
        rw [f1]
        obtain ⟨h7, e7, S7⟩ := S6.pos 1000 5
        simp only [wk, wt, wl, ↓reduceIte, Nat.reduceEqDiff, Nat.reduceAdd, Nat.zero_add, not_false_eq_true, not_true_eq_false, t0, t3, t5, t9, moveV, posV, zero_p, e7]
        refine (S7.forth).use ?_
        rintro _ h8 ⟨rfl, S8⟩
        rw [forthN]
        obtain ⟨h9, e9, S9⟩ := S8.pos 0 0
        have dd : ∀ x : Int, decide (x = x) = true := fun x => decide_eq_true rfl
        simp only [wk, wt, wl, ↓reduceIte, Nat.reduceEqDiff, Nat.reduceAdd, Nat.zero_add, not_false_eq_true, not_true_eq_false, t0, t3, t5, t9, moveV, posV, pt, zero_p, e9, S9.load (p := h'.size) (x := 1000) (y := 5) (by simp [hL5]), S9.load (p := h6.size) (x := 1000) (y := 5) (by simp), eql_pos, dd, Bool.and_self, Bool.not_false]
        refine awake_ok.use ?_
        rintro _ h10 ⟨rfl, K10⟩
        simp only [wk, wt, wl, ↓reduceIte, Nat.reduceEqDiff, Nat.reduceAdd, Nat.zero_add, not_false_eq_true, not_true_eq_false]
        exact S9.k.trans K10
end Go.Proofs.Ytepibodbcheobaa.Am
