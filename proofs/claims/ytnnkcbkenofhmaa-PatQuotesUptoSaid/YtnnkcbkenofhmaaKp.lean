/- PatGroups told of abstract memory. -/
import Derived.Test.YtnnkcbkenofhmaaKo
set_option linter.unusedSimpArgs false
set_option linter.unusedVariables false
set_option maxHeartbeats 4000000
set_option maxRecDepth 20000
namespace Go.Proofs.Ytnnkcbkenofhmaa.Am
open Go Go.RowKit Go.Proofs.Try
/-- A pattern's answer is put into a new variable. -/
theorem var_new {h0 h : Heap} {p : Pat} {c : RC} {D : Nat → Prop} (K : Keeps h0 h) (P : ReR h D p c) :
    ∃ h', storeV prog (h.new 26 (reC rc0)) 26 (.pointer (some ⟨h.size, 0, none⟩)) (reV c) = some (undef, h') ∧ Var h' h.size (reC c) ∧ ReR h' (Bx h.size) p c ∧ Keeps h h' ∧ h'.size = h.size + 1 := by
  have N := Keeps.new (Ch.wf K) 26 (reC rc0)
  obtain ⟨h', e, V, C, z⟩ := (Var.new (e := 26) (Ch.wf K) (cs := reC rc0)).put (Ch.wf N) (d := c) P.one1.1 P.one1.2
  have K' : Keeps h h' := N.step C fun b e => by omega
  exact ⟨h', e, V, ReR.ch K' (fun _ e => e.elim) p c (ReR.up (fun b e => .inr (by have : b = h.size := e; omega)) p c P), K', z⟩
theorem nest_ok : ∀ (n : Nat) (g : Int), PatOk (nestP n g)
  | 0, g => patOk_leaf (by decide)
  | n + 1, g => ⟨(fun e => by simp at e), by simp, nest_ok n (g + 1), trivial⟩
theorem patGroups_law {h : Heap} {n : Int} : ACalls prog 3 #[.int .i64 n] h (fun y h' => y = .bool true ∧ Keeps h h') := by
  refine acalls_of_W' func3 rfl (by kernel_rfl) (by kernel_rfl) (by simp [ntmps3]) ?_
  intro H
  have KR := Keeps.refl H
  have M1 := kmin_spec n 20
  have M2 := kmax_spec 0 (kmin n 20)
  obtain ⟨N, hN⟩ : ∃ N : Nat, kmax 0 (kmin n 20) = (N : Int) := ⟨(kmax 0 (kmin n 20)).toNat, by omega⟩
  have hN20 : N ≤ 20 := by omega
  simp only [wk, wt, wl, ↓reduceIte, Nat.reduceEqDiff, Nat.reduceAdd, Nat.zero_add, not_false_eq_true, not_true_eq_false, mnV, mxV, hN]
  refine W_loop (fun tm hh => tm 0 = .int .i64 (N : Int) ∧ ∃ (i : Nat) (v : Value), tm 4 = .int .i64 (i : Int) ∧ tm 3 = v ∧ i ≤ N ∧ OwI h.size hh v (opn i) ∧ Keeps h hh) (fun tm _ => (N - intOf (tm 4)).toNat) ⟨(by first | rfl | (simp only [wk, wt, wl, ↓reduceIte, Nat.reduceEqDiff, Nat.reduceAdd, Nat.zero_add, not_false_eq_true, not_true_eq_false]; done) | (simp only [wk, wt, wl, ↓reduceIte, Nat.reduceEqDiff, Nat.reduceAdd, Nat.zero_add, not_false_eq_true, not_true_eq_false]; rfl) | (simp only [wk, wt, wl, ↓reduceIte, Nat.reduceEqDiff, Nat.reduceAdd, Nat.zero_add, not_false_eq_true, not_true_eq_false, hN]; done) | (simp only [wk, wt, wl, ↓reduceIte, Nat.reduceEqDiff, Nat.reduceAdd, Nat.zero_add, not_false_eq_true, not_true_eq_false, hN]; rfl)), 0, nilS, (by first | rfl | (simp only [wk, wt, wl, ↓reduceIte, Nat.reduceEqDiff, Nat.reduceAdd, Nat.zero_add, not_false_eq_true, not_true_eq_false]; done) | (simp only [wk, wt, wl, ↓reduceIte, Nat.reduceEqDiff, Nat.reduceAdd, Nat.zero_add, not_false_eq_true, not_true_eq_false]; rfl)), (by first | rfl | (simp only [wk, wt, wl, ↓reduceIte, Nat.reduceEqDiff, Nat.reduceAdd, Nat.zero_add, not_false_eq_true, not_true_eq_false]; done) | (simp only [wk, wt, wl, ↓reduceIte, Nat.reduceEqDiff, Nat.reduceAdd, Nat.zero_add, not_false_eq_true, not_true_eq_false]; rfl) | (simp only [wk, wt, wl, ↓reduceIte, Nat.reduceEqDiff, Nat.reduceAdd, Nat.zero_add, not_false_eq_true, not_true_eq_false, nilS]; done) | (simp only [wk, wt, wl, ↓reduceIte, Nat.reduceEqDiff, Nat.reduceAdd, Nat.zero_add, not_false_eq_true, not_true_eq_false, nilS]; rfl)), by omega, OwI.nil, KR⟩ ?_
  rintro tm hh ⟨t0, i, v, t4, t3, hi, O, K⟩
  have wi : i < N → IntKind.i64.wrap ((i : Int) + 1) = ((i + 1 : Nat) : Int) := fun _ => by rw [IntWalk.i64_in _ (by omega)]; omega
  simp only [wk, wt, wl, ↓reduceIte, Nat.reduceEqDiff, Nat.reduceAdd, Nat.zero_add, not_false_eq_true, not_true_eq_false, t0, t3, t4]
  refine condK_dec (fun hd => ?_) (fun hd => ?_)
  · have hi2 : i < N := by omega
    have hlo := opn_len i
    obtain ⟨v2, h2, e2, O2, K2, _, _⟩ := O.lit K [92, 40] (by simp; omega)
    have e2' : aappend prog (hh.new 21 [.int .i32 92, .int .i32 40]) 22 22 v (.slice (some ⟨hh.size, 0, none⟩) 2 3) = some (v2, h2) := e2
    simp only [wk, wt, wl, ↓reduceIte, Nat.reduceEqDiff, Nat.reduceAdd, Nat.zero_add, not_false_eq_true, not_true_eq_false, t0, t3, t4, e2', wi hi2, intOf_int]
    exact ⟨⟨i + 1, v2, rfl, rfl, by omega, O2, K2⟩, by omega⟩
  obtain rfl : i = N := by omega
  have hlo := opn_len i
  obtain ⟨v2, h2, e2, O2, K2, _, _⟩ := O.lit K [97] (by simp; omega)
  have e2' : aappend prog (hh.new 21 [.int .i32 97]) 22 22 v (.slice (some ⟨hh.size, 0, none⟩) 1 2) = some (v2, h2) := e2
  simp only [wk, wt, wl, ↓reduceIte, Nat.reduceEqDiff, Nat.reduceAdd, Nat.zero_add, not_false_eq_true, not_true_eq_false, t0, t3, t4, e2']
  refine W_loop (fun tm hh => tm 0 = .int .i64 (i : Int) ∧ ∃ (j : Nat) (v : Value), tm 5 = .int .i64 (j : Int) ∧ tm 3 = v ∧ j ≤ i ∧ OwI h.size hh v (opn i ++ [97] ++ cls j) ∧ Keeps h hh) (fun tm _ => (i - intOf (tm 5)).toNat) ⟨(by first | rfl | (simp only [wk, wt, wl, ↓reduceIte, Nat.reduceEqDiff, Nat.reduceAdd, Nat.zero_add, not_false_eq_true, not_true_eq_false]; done) | (simp only [wk, wt, wl, ↓reduceIte, Nat.reduceEqDiff, Nat.reduceAdd, Nat.zero_add, not_false_eq_true, not_true_eq_false]; rfl) | (simp only [wk, wt, wl, ↓reduceIte, Nat.reduceEqDiff, Nat.reduceAdd, Nat.zero_add, not_false_eq_true, not_true_eq_false, t0]; done) | (simp only [wk, wt, wl, ↓reduceIte, Nat.reduceEqDiff, Nat.reduceAdd, Nat.zero_add, not_false_eq_true, not_true_eq_false, t0]; rfl)), 0, v2, (by first | rfl | (simp only [wk, wt, wl, ↓reduceIte, Nat.reduceEqDiff, Nat.reduceAdd, Nat.zero_add, not_false_eq_true, not_true_eq_false]; done) | (simp only [wk, wt, wl, ↓reduceIte, Nat.reduceEqDiff, Nat.reduceAdd, Nat.zero_add, not_false_eq_true, not_true_eq_false]; rfl)), (by first | rfl | (simp only [wk, wt, wl, ↓reduceIte, Nat.reduceEqDiff, Nat.reduceAdd, Nat.zero_add, not_false_eq_true, not_true_eq_false]; done) | (simp only [wk, wt, wl, ↓reduceIte, Nat.reduceEqDiff, Nat.reduceAdd, Nat.zero_add, not_false_eq_true, not_true_eq_false]; rfl)), by omega, by simpa [cls] using O2, K2⟩ ?_
  clear t0 t3 t4 O O2 K K2 e2 e2' hd wi
  rintro tm hh ⟨t0, j, v, t5, t3, hj, O, K⟩
  have wi : j < i → IntKind.i64.wrap ((j : Int) + 1) = ((j + 1 : Nat) : Int) := fun _ => by rw [IntWalk.i64_in _ (by omega)]; omega
  have hcl := cls_len j
  simp only [wk, wt, wl, ↓reduceIte, Nat.reduceEqDiff, Nat.reduceAdd, Nat.zero_add, not_false_eq_true, not_true_eq_false, t0, t3, t5]
  refine condK_dec (fun hd => ?_) (fun hd => ?_)
  · have hi2 : j < i := by omega
    obtain ⟨v2, h2, e2, O2, K2, _, _⟩ := O.lit K [92, 41] (by simp; omega)
    have e2' : aappend prog (hh.new 21 [.int .i32 92, .int .i32 41]) 22 22 v (.slice (some ⟨hh.size, 0, none⟩) 2 3) = some (v2, h2) := e2
    simp only [wk, wt, wl, ↓reduceIte, Nat.reduceEqDiff, Nat.reduceAdd, Nat.zero_add, not_false_eq_true, not_true_eq_false, t0, t3, t5, e2', wi hi2, intOf_int]
    exact ⟨⟨j + 1, v2, rfl, rfl, by omega, by rw [List.append_assoc] at O2; exact O2, K2⟩, by omega⟩
  obtain rfl : j = i := by omega
  have hgl : (gr j).length ≤ 1000 := by simp only [gr, List.length_append, hlo, hcl, List.length_cons, List.length_nil]; omega
  have O' : OwI h.size hh v (gr j) := O
  simp only [wk, wt, wl, ↓reduceIte, Nat.reduceEqDiff, Nat.reduceAdd, Nat.zero_add, not_false_eq_true, not_true_eq_false, t0, t3, t5]
  refine (parse_ok O'.rd (by omega) (i32_gr j)).use ?_
  rintro _ h3 ⟨c3, rfl, P3, K3⟩
  obtain ⟨h4, e4, V4, P4, K4, z4⟩ := var_new (K.trans K3) P3
  have K04 := (K.trans K3).trans K4
  simp only [wk, wt, wl, ↓reduceIte, Nat.reduceEqDiff, Nat.reduceAdd, Nat.zero_add, not_false_eq_true, not_true_eq_false, t0, t3, t5, newRe, newSz, e4]
  refine condK_dec (fun c1 => ?_) (fun c1 => ?_)
  · have hd := gr_deep (n := j) (by omega) hN20
    simp only [wk, wt, wl, ↓reduceIte, Nat.reduceEqDiff, Nat.reduceAdd, Nat.zero_add, not_false_eq_true, not_true_eq_false, hd]
    refine (awake_ok).use ?_
    rintro _ h5 ⟨rfl, K5⟩
    simp only [wk, wt, wl, ↓reduceIte, Nat.reduceEqDiff, Nat.reduceAdd, Nat.zero_add, not_false_eq_true, not_true_eq_false]
    exact K04.trans K5
  · have hf := gr_fine (n := j) (by omega)
    have ho := gr_open (n := j) (by omega)
    rw [hf] at P4
    have O4 := O'.keeps (K3.trans K4)
    have NE := Keeps.new (Ch.wf K04) 21 []
    have bE : abuildSlice prog h4 22 0 #[] = some (.slice (some ⟨h4.size, 0, none⟩) 0 1, h4.new 21 []) := build0 underlying22 asz21
    have OE : OwI h4.size (h4.new 21 []) (.slice (some ⟨h4.size, 0, none⟩) 0 1) [] := OwI.new (Ch.wf K04) (Nat.le_refl _)
    obtain ⟨v6, h6, e6, O6, K6, R6, z6⟩ := OE.app NE (O4.keeps NE).rd (by simp; omega)
    obtain ⟨v7, h7, e7, O7, K7, R7, z7⟩ := O6.lit K6 [92, 41] (by simp; omega)
    have e7' : aappend prog (h6.new 21 [.int .i32 92, .int .i32 41]) 22 22 v6 (.slice (some ⟨h6.size, 0, none⟩) 2 3) = some (v7, h7) := e7
    simp only [wk, wt, wl, ↓reduceIte, Nat.reduceEqDiff, Nat.reduceAdd, Nat.zero_add, not_false_eq_true, not_true_eq_false, t0, t3, bE, e6, e7']
    refine (parse_ok O7.rd (by simp only [List.length_append, List.length_nil, List.length_cons]; omega) (fun x hx => by
      simp only [List.nil_append, List.mem_append, List.mem_cons, List.not_mem_nil, or_false] at hx
      rcases hx with hx | rfl | rfl
      · exact i32_gr j x hx
      · omega
      · omega)).use ?_
    rintro _ h8 ⟨c8, rfl, P8, K8⟩
    rw [List.nil_append] at P8
    obtain ⟨h9, e9, V9, P9, K9, z9⟩ := var_new (K7.trans K8) P8
    have K49 := (K7.trans K8).trans K9
    have V49 := Keeps.var (Ch.wf K04) K49 V4
    have P49 := ReR.ch K49 (fun _ e => e.elim) _ _ P4
    simp only [wk, wt, wl, ↓reduceIte, Nat.reduceEqDiff, Nat.reduceAdd, Nat.zero_add, not_false_eq_true, not_true_eq_false, t0, t3, List.nil_append, newRe, newSz, e9]
    generalize hb6 : h3.size = b6 at V49 P49
    refine W_loop (fun tm hh => tm 0 = .int .i64 (j : Int) ∧ tm 6 = pt b6 ∧ tm 7 = .int .i64 (parseR (gr j)).2 ∧ tm 9 = .int .i64 (parseR (gr j ++ [92, 41])).2 ∧ ∃ (i m : Nat) (c : RC), tm 10 = .int .i64 (i : Int) ∧ 1 ≤ i ∧ i + m = j + 1 ∧ Var hh b6 (reC c) ∧ ReR hh (Bx b6) (nestP m (i : Int)) c ∧ Keeps h hh) (fun tm _ => (j + 1 - intOf (tm 10)).toNat)
      ⟨(by first | rfl | (simp only [wk, wt, wl, ↓reduceIte, Nat.reduceEqDiff, Nat.reduceAdd, Nat.zero_add, not_false_eq_true, not_true_eq_false]; done) | (simp only [wk, wt, wl, ↓reduceIte, Nat.reduceEqDiff, Nat.reduceAdd, Nat.zero_add, not_false_eq_true, not_true_eq_false]; rfl) | (simp only [wk, wt, wl, ↓reduceIte, Nat.reduceEqDiff, Nat.reduceAdd, Nat.zero_add, not_false_eq_true, not_true_eq_false, t0]; done) | (simp only [wk, wt, wl, ↓reduceIte, Nat.reduceEqDiff, Nat.reduceAdd, Nat.zero_add, not_false_eq_true, not_true_eq_false, t0]; rfl)), (by first | rfl | (simp only [wk, wt, wl, ↓reduceIte, Nat.reduceEqDiff, Nat.reduceAdd, Nat.zero_add, not_false_eq_true, not_true_eq_false]; done) | (simp only [wk, wt, wl, ↓reduceIte, Nat.reduceEqDiff, Nat.reduceAdd, Nat.zero_add, not_false_eq_true, not_true_eq_false]; rfl) | (simp only [wk, wt, wl, ↓reduceIte, Nat.reduceEqDiff, Nat.reduceAdd, Nat.zero_add, not_false_eq_true, not_true_eq_false, pt]; done) | (simp only [wk, wt, wl, ↓reduceIte, Nat.reduceEqDiff, Nat.reduceAdd, Nat.zero_add, not_false_eq_true, not_true_eq_false, pt]; rfl)), (by first | rfl | (simp only [wk, wt, wl, ↓reduceIte, Nat.reduceEqDiff, Nat.reduceAdd, Nat.zero_add, not_false_eq_true, not_true_eq_false]; done) | (simp only [wk, wt, wl, ↓reduceIte, Nat.reduceEqDiff, Nat.reduceAdd, Nat.zero_add, not_false_eq_true, not_true_eq_false]; rfl)), (by first | rfl | (simp only [wk, wt, wl, ↓reduceIte, Nat.reduceEqDiff, Nat.reduceAdd, Nat.zero_add, not_false_eq_true, not_true_eq_false]; done) | (simp only [wk, wt, wl, ↓reduceIte, Nat.reduceEqDiff, Nat.reduceAdd, Nat.zero_add, not_false_eq_true, not_true_eq_false]; rfl)), 1, j, c3, (by first | rfl | (simp only [wk, wt, wl, ↓reduceIte, Nat.reduceEqDiff, Nat.reduceAdd, Nat.zero_add, not_false_eq_true, not_true_eq_false]; done) | (simp only [wk, wt, wl, ↓reduceIte, Nat.reduceEqDiff, Nat.reduceAdd, Nat.zero_add, not_false_eq_true, not_true_eq_false]; rfl)), by omega, by omega, V49, P49, K04.trans K49⟩ ?_
    clear t0 t3 t5
    rintro tm hh ⟨t0, t6, t7, t9, i, m, c, t10, hi1, him, V, P, KH⟩
    have Hh := Ch.wf KH
    have hb6l : h.size ≤ b6 := by rw [← hb6]; exact Ch.le (K.trans K3)
    simp only [wk, wt, wl, ↓reduceIte, Nat.reduceEqDiff, Nat.reduceAdd, Nat.zero_add, not_false_eq_true, not_true_eq_false, t0, t10]
    refine condK_dec (fun hd2 => ?_) (fun hd2 => ?_)
    · obtain ⟨m, rfl⟩ : ∃ q, m = q + 1 := ⟨m - 1, by omega⟩
      obtain ⟨a1, a2, a3, a4, a5, a6, a7, a8, l, S, A⟩ := P
      have LK := V.k0
      have L4 := V.k4
      have L6 := V.k6
      rw [a1] at LK
      rw [a4] at L4
      have LN : abuiltin prog .len #[24] #[c.pv] = some (.int .i64 1) := by
        have := RS.len S underlying24
        rw [A.len] at this; exact this
      obtain ⟨c', hc', P'⟩ := A.at (i := 0) rfl
      have IX : aindexAddr prog 24 c.pv (.int .i64 0) = some (.pointer (some (eltA c.pv 7 0))) := Rd.index S underlying24 asz26 (q := .i64) (i := 0) (by omega) (by rw [A.len]; simp)
      have LX : aload prog hh 26 (eltA c.pv 7 0) = some (reV c') := RS.agg S reC_len underlying26 rfl asz26 hc'
      obtain ⟨hx, ex, Vx, Cx, zx⟩ := V.put Hh (d := c') P'.one1.1 P'.one1.2
      have Px := ReR.ch Cx (fun b e => e) _ _ P'
      have d1 : decide (¬ (11 : Int) = 11) = false := rfl
      have d2 : decide (¬ (i : Int) = (i : Int)) = false := by simp
      have d3 : decide (¬ (1 : Int) = 1) = false := rfl
      have wi : IntKind.i64.wrap ((i : Int) + 1) = ((i + 1 : Nat) : Int) := by rw [IntWalk.i64_in _ (by omega)]; omega
      simp only [wk, wt, wl, ↓reduceIte, Nat.reduceEqDiff, Nat.reduceAdd, Nat.zero_add, not_false_eq_true, not_true_eq_false, t0, t6, t7, t9, t10, pt, LK, L4, L6, d1, d2, LN, d3, IX, LX, ex, wi, intOf_int]
      exact ⟨⟨i + 1, m, c', rfl, by omega, by omega, Vx, Px, KH.step Cx fun b e => by omega⟩, by omega⟩
    · obtain rfl : m = 0 := by omega
      have d1 : decide ((0 : Int) = 0) = true := rfl
      have d2 : decide ((10 : Int) = 10) = true := rfl
      simp only [wk, wt, wl, ↓reduceIte, Nat.reduceEqDiff, Nat.reduceAdd, Nat.zero_add, not_false_eq_true, not_true_eq_false, t0, t6, t7, t9, t10, pt, hf, ho, V.re, build_rer]
      refine (same_all _ (pR 97) c _ hh _ (Bx b6) (Nat.lt_succ_self _) (patOk_leaf (by decide)) P ReR.r).use ?_
      rintro _ h10 ⟨rfl, K10⟩
      simp only [wk, wt, wl, ↓reduceIte, Nat.reduceEqDiff, Nat.reduceAdd, Nat.zero_add, not_false_eq_true, not_true_eq_false]
      refine (awake_ok).use ?_
      rintro _ h11 ⟨rfl, K11⟩
      simp only [wk, wt, wl, ↓reduceIte, Nat.reduceEqDiff, Nat.reduceAdd, Nat.zero_add, not_false_eq_true, not_true_eq_false]
      exact (KH.trans K10).trans K11
end Go.Proofs.Ytnnkcbkenofhmaa.Am
