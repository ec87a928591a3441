/- PatTimes told of abstract memory. -/
import Derived.Test.YtnnkcbkenofhmaaKq
set_option linter.unusedSimpArgs false
set_option linter.unusedVariables false
set_option maxHeartbeats 4000000
set_option maxRecDepth 20000
namespace Go.Proofs.Ytnnkcbkenofhmaa.Am
open Go Go.RowKit Go.Proofs.Try
theorem cv64 {x : Int} (h1 : 0 ≤ x) (h2 : x ≤ 1000) : ∀ h, aconv prog h 3 21 (.int .i64 x) = some (.int .i32 x) := fun h => by
  have w : IntKind.i32.wrap x = x := IntWalk.i32_in _ (by omega)
  simp [aconv, underlying21, underlying3, w]
theorem decimal_f : ∀ (f : Nat) (h : Heap) (n : Nat), f ≤ 10 → n < 10 ^ (f + 1) → n ≤ 1000 → ACalls prog 11 #[.int .i64 (n : Int)] h (fun y h' => OwI h.size h' y (decF (f + 1) n) ∧ Keeps h h')
  | f, h, n, hf, hn, hb => by
    refine acalls_of_W' func11 rfl (by kernel_rfl) (by kernel_rfl) (by simp [ntmps11]) ?_
    intro H
    by_cases c : n < 10
    · have d : decide ((n : Int) < 10) = true := decide_eq_true (by omega)
      have w1 : IntKind.i64.wrap (48 + (n : Int)) = 48 + (n : Int) := IntWalk.i64_in _ (by omega)
      have cv := cv64 (x := 48 + (n : Int)) (by omega) (by omega)
      have O := OwI.new (B := h.size) H (Nat.le_refl _) (l := [48 + (n : Int)]) (c := 2)
      simp only [wk, wt, wl, ↓reduceIte, Nat.reduceEqDiff, Nat.reduceAdd, Nat.zero_add, not_false_eq_true, not_true_eq_false, d, w1, cv]
      simp only [decF, if_pos c]
      exact ⟨O, Keeps.new H _ _⟩
    · have d : decide ((n : Int) < 10) = false := decide_eq_false (by omega)
      obtain ⟨f, rfl⟩ : ∃ q, f = q + 1 := ⟨f - 1, by
        rcases f with _ | f
        · simp at hn; omega
        · omega⟩
      have hq : ((n : Int)).tdiv 10 = ((n / 10 : Nat) : Int) := by rw [Int.tdiv_eq_ediv_of_nonneg (by omega)]; rfl
      have hr : ((n : Int)).tmod 10 = ((n % 10 : Nat) : Int) := by rw [Int.tmod_eq_emod_of_nonneg (by omega)]; rfl
      have wq : IntKind.i64.wrap (((n : Int)).tdiv 10) = ((n / 10 : Nat) : Int) := by rw [hq]; exact IntWalk.i64_in _ (by omega)
      have aq := abin_quo (P := prog) (t := 3) (k := .i64) (x := (n : Int)) (y := 10) (by decide)
      have ar := abin_rem (P := prog) (t := 3) (k := .i64) (x := (n : Int)) (y := 10) (by decide)
      rw [wq] at aq
      rw [hr] at ar
      have hd : n % 10 < 10 := Nat.mod_lt _ (by decide)
      have w1 : IntKind.i64.wrap (48 + ((n % 10 : Nat) : Int)) = 48 + ((n % 10 : Nat) : Int) := IntWalk.i64_in _ (by omega)
      have cv := cv64 (x := 48 + ((n % 10 : Nat) : Int)) (by omega) (by omega)
      have hp : n / 10 < 10 ^ (f + 1) := by rw [Nat.div_lt_iff_lt_mul (by decide)]; rw [Nat.pow_succ] at hn; exact hn
      simp only [wk, wt, wl, ↓reduceIte, Nat.reduceEqDiff, Nat.reduceAdd, Nat.zero_add, not_false_eq_true, not_true_eq_false, d, aq]
      refine (decimal_f f h (n / 10) (by omega) hp (by omega)).use ?_
      rintro v h2 ⟨O2, K2⟩
      have hl : (decF (f + 1) (n / 10)).length ≤ 1000 := by
        have : ∀ (f n : Nat), (decF f n).length ≤ f := fun f => by
          induction f with
          | zero => intro n; simp [decF]
          | succ f ih => intro n; simp only [decF]; split <;> simp; exact ih _
        have := this (f + 1) (n / 10); omega
      obtain ⟨v3, h3, e3, O3, K3, _, _⟩ := O2.lit K2 [48 + ((n % 10 : Nat) : Int)] (by simp; omega)
      have e3' : aappend prog (h2.new 21 [.int .i32 (48 + ((n % 10 : Nat) : Int))]) 22 22 v (.slice (some ⟨h2.size, 0, none⟩) 1 2) = some (v3, h3) := e3
      simp only [wk, wt, wl, ↓reduceIte, Nat.reduceEqDiff, Nat.reduceAdd, Nat.zero_add, not_false_eq_true, not_true_eq_false, ar, w1, cv, e3']
      refine ⟨?_, K3⟩
      rw [show decF (f + 1 + 1) n = decF (f + 1) (n / 10) ++ [48 + ((n % 10 : Nat) : Int)] by simp only [decF, if_neg c]]
      exact O3
theorem decimal_ok {h : Heap} {n : Nat} (hn : n ≤ 120) : ACalls prog 11 #[.int .i64 (n : Int)] h (fun y h' => OwI h.size h' y (dec n) ∧ Keeps h h') := decimal_f 2 h n (by omega) (by omega) (by omega)
theorem i32_mem {l : List Int} (h : ∀ x, x ∈ l → 0 ≤ x ∧ x ≤ 1000) : I32 l := fun x hx => by have := h x hx; omega
theorem pm_rng {m n : Nat} : ∀ x, x ∈ pm m n → 0 ≤ x ∧ x ≤ 1000 := fun x hx => by
  simp only [pm, List.mem_append, List.mem_cons, List.not_mem_nil, or_false] at hx
  rcases hx with (((hx | hx) | hx) | hx) | hx
  · omega
  · exact dec_rng x hx
  · omega
  · exact dec_rng x hx
  · omega
theorem pm2_rng {m n : Nat} : ∀ x, x ∈ pm2 m n → 0 ≤ x ∧ x ≤ 1000 := fun x hx => by
  simp only [pm2, List.mem_append, List.mem_cons, List.not_mem_nil, or_false] at hx
  rcases hx with (((hx | hx) | hx) | hx) | hx
  · omega
  · exact pm_rng x hx
  · omega
  · exact dec_rng x hx
  · omega
theorem pm_len {m n : Nat} : (pm m n).length ≤ 12 := by
  have h1 := dec_len (n := m)
  have h2 := dec_len (n := n)
  simp only [pm, List.length_append, List.length_cons, List.length_nil]; omega
theorem pm2_len {m n : Nat} : (pm2 m n).length ≤ 24 := by
  have h1 := dec_len (n := m)
  have h2 := pm_len (m := m) (n := n)
  simp only [pm2, List.length_append, List.length_cons, List.length_nil]; omega
theorem eql_bool {a b : Bool} : abin prog .eql 4 (.bool a) (.bool b) = some (.bool (a == b)) := by
  cases a <;> cases b <;> simp [abin, aeq, underlying4]
theorem patTimes_law {h : Heap} {m0 n0 : Int} : ACalls prog 4 #[.int .i64 m0, .int .i64 n0] h (fun y h' => y = .bool true ∧ Keeps h h') := by
  refine acalls_of_W' func4 rfl (by kernel_rfl) (by kernel_rfl) (by simp [ntmps4]) ?_
  intro H
  have KR := Keeps.refl H
  have M1 := kmin_spec m0 120
  have M2 := kmax_spec 0 (kmin m0 120)
  have M3 := kmin_spec n0 120
  have M4 := kmax_spec 0 (kmin n0 120)
  obtain ⟨m, hm⟩ : ∃ N : Nat, kmax 0 (kmin m0 120) = (N : Int) := ⟨(kmax 0 (kmin m0 120)).toNat, by omega⟩
  obtain ⟨n, hn⟩ : ∃ N : Nat, kmax 0 (kmin n0 120) = (N : Int) := ⟨(kmax 0 (kmin n0 120)).toNat, by omega⟩
  have hm1 : m ≤ 120 := by omega
  have hn1 : n ≤ 120 := by omega
  have hdm := dec_len (n := m)
  have hdn := dec_len (n := n)
  have N1 := Keeps.new H 21 [.int .i32 97, .int .i32 92, .int .i32 123]
  have O1 : OwI h.size (h.new 21 [.int .i32 97, .int .i32 92, .int .i32 123]) (.slice (some ⟨h.size, 0, none⟩) 3 4) [97, 92, 123] := OwI.new H (Nat.le_refl _)
  simp only [wk, wt, wl, ↓reduceIte, Nat.reduceEqDiff, Nat.reduceAdd, Nat.zero_add, not_false_eq_true, not_true_eq_false, mnV, mxV, hm, hn]
  refine (decimal_ok hm1).use ?_
  rintro dv h2 ⟨O2, K2⟩
  obtain ⟨v3, h3, e3, O3, K3, _, _⟩ := (O1.keeps K2).app (N1.trans K2) O2.rd (by simp; omega)
  obtain ⟨v4, h4, e4, O4, K4, _, _⟩ := O3.lit K3 [44] (by simp; omega)
  have e4' : aappend prog (h3.new 21 [.int .i32 44]) 22 22 v3 (.slice (some ⟨h3.size, 0, none⟩) 1 2) = some (v4, h4) := e4
  simp only [wk, wt, wl, ↓reduceIte, Nat.reduceEqDiff, Nat.reduceAdd, Nat.zero_add, not_false_eq_true, not_true_eq_false, hm, hn, e3, e4']
  refine (decimal_ok hn1).use ?_
  rintro dv2 h5 ⟨O5, K5⟩
  obtain ⟨v6, h6, e6, O6, K6, _, _⟩ := (O4.keeps K5).app (K4.trans K5) O5.rd (by simp; omega)
  obtain ⟨v7, h7, e7, O7, K7, _, _⟩ := O6.lit K6 [92, 125] (by simp; omega)
  have e7' : aappend prog (h6.new 21 [.int .i32 92, .int .i32 125]) 22 22 v6 (.slice (some ⟨h6.size, 0, none⟩) 2 3) = some (v7, h7) := e7
  have O7' : OwI h.size h7 v7 (pm m n) := O7
  have hpl := pm_len (m := m) (n := n)
  simp only [wk, wt, wl, ↓reduceIte, Nat.reduceEqDiff, Nat.reduceAdd, Nat.zero_add, not_false_eq_true, not_true_eq_false, hm, hn, e6, e7']
  refine (parse_ok O7'.rd (by omega) (i32_mem pm_rng)).use ?_
  rintro _ h8 ⟨c8, rfl, P8, K8⟩
  obtain ⟨h9, e9, V9, P9, K9, z9⟩ := var_new (K7.trans K8) P8
  have K09 := (K7.trans K8).trans K9
  simp only [wk, wt, wl, ↓reduceIte, Nat.reduceEqDiff, Nat.reduceAdd, Nat.zero_add, not_false_eq_true, not_true_eq_false, hm, hn, newRe, newSz, e9]
  by_cases hc : 100 < m ∨ 100 < n ∨ n < m
  · have hb := pm_bad hm1 hn1 hc
    have d0 : decide ((11 : Int) = 11) = true := rfl
    by_cases c1 : 100 < m
    · have d1 : decide (100 < (m : Int)) = true := decide_eq_true (by omega)
      simp only [wk, wt, wl, ↓reduceIte, Nat.reduceEqDiff, Nat.reduceAdd, Nat.zero_add, not_false_eq_true, not_true_eq_false, hm, hn, d1, hb, d0]
      refine (awake_ok).use ?_
      rintro _ h10 ⟨rfl, K10⟩
      simp only [wk, wt, wl, ↓reduceIte, Nat.reduceEqDiff, Nat.reduceAdd, Nat.zero_add, not_false_eq_true, not_true_eq_false]
      exact K09.trans K10
    · have d1 : decide (100 < (m : Int)) = false := decide_eq_false (by omega)
      by_cases c2 : 100 < n
      · have d2 : decide (100 < (n : Int)) = true := decide_eq_true (by omega)
        simp only [wk, wt, wl, ↓reduceIte, Nat.reduceEqDiff, Nat.reduceAdd, Nat.zero_add, not_false_eq_true, not_true_eq_false, hm, hn, d1, d2, hb, d0]
        refine (awake_ok).use ?_
        rintro _ h10 ⟨rfl, K10⟩
        simp only [wk, wt, wl, ↓reduceIte, Nat.reduceEqDiff, Nat.reduceAdd, Nat.zero_add, not_false_eq_true, not_true_eq_false]
        exact K09.trans K10
      · have d2 : decide (100 < (n : Int)) = false := decide_eq_false (by omega)
        have d3 : decide ((n : Int) < (m : Int)) = true := decide_eq_true (by omega)
        simp only [wk, wt, wl, ↓reduceIte, Nat.reduceEqDiff, Nat.reduceAdd, Nat.zero_add, not_false_eq_true, not_true_eq_false, hm, hn, d1, d2, d3, hb, d0]
        refine (awake_ok).use ?_
        rintro _ h10 ⟨rfl, K10⟩
        simp only [wk, wt, wl, ↓reduceIte, Nat.reduceEqDiff, Nat.reduceAdd, Nat.zero_add, not_false_eq_true, not_true_eq_false]
        exact K09.trans K10
  · have d1 : decide (100 < (m : Int)) = false := decide_eq_false (by omega)
    have d2 : decide (100 < (n : Int)) = false := decide_eq_false (by omega)
    have d3 : decide ((n : Int) < (m : Int)) = false := decide_eq_false (by omega)
    have hok := pm_ok hm1 hn1 hc
    have hs2 := pm2_size (m := m) (n := n) (by omega) (by omega) (by omega)
    rw [hok] at P9
    have N10 := Keeps.new (Ch.wf K09) 21 [.int .i32 92, .int .i32 40]
    have O10 : OwI h9.size (h9.new 21 [.int .i32 92, .int .i32 40]) (.slice (some ⟨h9.size, 0, none⟩) 2 3) [92, 40] := OwI.new (Ch.wf K09) (Nat.le_refl _)
    have O79 := O7'.keeps ((K8.trans K9).trans N10)
    obtain ⟨v11, h11, e11, O11, K11, _, _⟩ := O10.app N10 O79.rd (by simp; omega)
    obtain ⟨v12, h12, e12, O12, K12, _, _⟩ := O11.lit K11 [92, 41, 92, 123] (by simp; omega)
    have e12' : aappend prog (h11.new 21 [.int .i32 92, .int .i32 41, .int .i32 92, .int .i32 123]) 22 22 v11 (.slice (some ⟨h11.size, 0, none⟩) 4 5) = some (v12, h12) := e12
    simp only [wk, wt, wl, ↓reduceIte, Nat.reduceEqDiff, Nat.reduceAdd, Nat.zero_add, not_false_eq_true, not_true_eq_false, hm, hn, d1, d2, d3, e11, e12']
    refine (decimal_ok hm1).use ?_
    rintro dv3 h13 ⟨O13, K13⟩
    obtain ⟨v14, h14, e14, O14, K14, _, _⟩ := (O12.keeps K13).app (K12.trans K13) O13.rd (by simp; omega)
    obtain ⟨v15, h15, e15, O15, K15, _, _⟩ := O14.lit K14 [92, 125] (by simp; omega)
    have e15' : aappend prog (h14.new 21 [.int .i32 92, .int .i32 125]) 22 22 v14 (.slice (some ⟨h14.size, 0, none⟩) 2 3) = some (v15, h15) := e15
    have O15' : OwI h9.size h15 v15 (pm2 m n) := O15
    have hpl2 := pm2_len (m := m) (n := n)
    simp only [wk, wt, wl, ↓reduceIte, Nat.reduceEqDiff, Nat.reduceAdd, Nat.zero_add, not_false_eq_true, not_true_eq_false, hm, hn, e14, e15']
    refine (parse_ok O15'.rd (by omega) (i32_mem pm2_rng)).use ?_
    rintro _ h16 ⟨c16, rfl, P16, K16⟩
    obtain ⟨h17, e17, V17, P17, K17, z17⟩ := var_new (K15.trans K16) P16
    have K917 := (K15.trans K16).trans K17
    have V97 := Keeps.var (Ch.wf K09) K917 V9
    obtain ⟨a1, a2, a3, a4, a5, _⟩ := P9
    have LK := V97.k0
    have L4 := V97.k4
    have L5 := V97.k5
    rw [a1] at LK
    rw [a4] at L4
    rw [a5] at L5
    have X1 := kmax_spec 1 (n : Int)
    have X2 := kmax_spec 1 (m : Int)
    have hmul : 0 ≤ (2 + kmax 1 (n : Int)) * kmax 1 (m : Int) ∧ (2 + kmax 1 (n : Int)) * kmax 1 (m : Int) ≤ 200 * 200 := ⟨Int.mul_nonneg (by omega) (by omega), Int.mul_le_mul (by omega) (by omega) (by omega) (by omega)⟩
    have w1 : IntKind.i64.wrap (2 + kmax 1 (n : Int)) = 2 + kmax 1 (n : Int) := IntWalk.i64_in _ (by omega)
    have w2 : IntKind.i64.wrap ((2 + kmax 1 (n : Int)) * kmax 1 (m : Int)) = (2 + kmax 1 (n : Int)) * kmax 1 (m : Int) := IntWalk.i64_in _ (by omega)
    have w3 : IntKind.i64.wrap (1 + (2 + kmax 1 (n : Int)) * kmax 1 (m : Int)) = 1 + (2 + kmax 1 (n : Int)) * kmax 1 (m : Int) := IntWalk.i64_in _ (by omega)
    have f1 : decide ((0 : Int) = 0) = true := rfl
    have f2 : decide ((10 : Int) = 10) = true := rfl
    have f3 : decide ((m : Int) = (m : Int)) = true := by simp
    have f4 : decide ((n : Int) = (n : Int)) = true := by simp
    have f5 : (decide ((parseR (pm2 m n)).2 = 0) == decide (1 + (2 + kmax 1 (n : Int)) * kmax 1 (m : Int) ≤ 400)) = true := by
      rw [hs2]
      by_cases c : 1 + (2 + kmax 1 (n : Int)) * kmax 1 (m : Int) ≤ 400
      · rw [if_pos c]; simp [c]
      · rw [if_neg c]; simp [c]
    simp only [wk, wt, wl, ↓reduceIte, Nat.reduceEqDiff, Nat.reduceAdd, Nat.zero_add, not_false_eq_true, not_true_eq_false, hm, hn, newRe, newSz, e17, mxV, w1, w2, w3, hok, f1, f2, f3, f4, LK, L4, L5, eql_bool, f5]
    refine (awake_ok).use ?_
    rintro _ h18 ⟨rfl, K18⟩
    simp only [wk, wt, wl, ↓reduceIte, Nat.reduceEqDiff, Nat.reduceAdd, Nat.zero_add, not_false_eq_true, not_true_eq_false]
    exact (K09.trans K917).trans K18
end Go.Proofs.Ytnnkcbkenofhmaa.Am
