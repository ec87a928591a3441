/- PatTimes in plain terms: what a repetition with counts is read as; no program in sight. -/
import Derived.Test.YtnnkcbkenofhmaaKp
set_option linter.unusedSimpArgs false
set_option linter.unusedVariables false
namespace Go.Proofs.Ytnnkcbkenofhmaa.Am
open Go Go.RowKit Go.Proofs.Try
section
variable {grp : List Int → Int → PRes} {n : Nat} {acc : List Pat} {l t u : List Int} {g g' : Int} {p q : Pat} {e : Int}
theorem pieM_done (h : endedM l = true) : pieM grp (n + 1) acc l g = .ok (pCat acc, l, g) := by simp only [pieM]; rw [if_pos h]
theorem pieM_step (h : endedM l = false) (ha : atomM grp acc.isEmpty l g = .ok (p, t, g')) (hr : repsM (t.length + 1) p t = .ok (q, u)) : pieM grp (n + 1) acc l g = pieM grp n (acc ++ [q]) u g' := by
  simp only [pieM]
  rw [h, ha]
  simp only [Bool.false_eq_true, if_false]
  rw [hr]
theorem pieM_errA (h : endedM l = false) (ha : atomM grp acc.isEmpty l g = .error e) : pieM grp (n + 1) acc l g = .error e := by
  simp only [pieM]
  rw [h, ha]
  simp only [Bool.false_eq_true, if_false]
theorem pieM_errR (h : endedM l = false) (ha : atomM grp acc.isEmpty l g = .ok (p, t, g')) (hr : repsM (t.length + 1) p t = .error e) : pieM grp (n + 1) acc l g = .error e := by
  simp only [pieM]
  rw [h, ha]
  simp only [Bool.false_eq_true, if_false]
  rw [hr]
theorem altM_one (hp : pieM grp (l.length + 1) [] l g = .ok (p, t, g')) (hb : barM t = false) : altM grp l g = .ok (p, t, g') := by
  unfold altM
  rw [hp]
  simp only [altsM]
  rw [hb]
  simp only [Bool.false_eq_true, if_false]
  rfl
theorem altM_err (hp : pieM grp (l.length + 1) [] l g = .error e) : altM grp l g = .error e := by
  unfold altM
  rw [hp]
theorem repsM_none (hk : p.kind ≠ 4) (h : repM p l = .ok none) : repsM (n + 1) p l = .ok (p, l) := by simp only [repsM]; rw [if_neg hk, h]
theorem repsM_some (hk : p.kind ≠ 4) (h : repM p l = .ok (some (q, t))) : repsM (n + 1) p l = repsM n q t := by simp only [repsM]; rw [if_neg hk, h]
theorem repsM_err (hk : p.kind ≠ 4) (h : repM p l = .error e) : repsM (n + 1) p l = .error e := by simp only [repsM]; rw [if_neg hk, h]
theorem repM_times {T : List Int} : repM p (92 :: 123 :: T) = (match timesM T with | .error e => .error e | .ok (lo, hi, t) => .ok (some (pStar lo hi p, t))) := rfl
theorem parseR_ok (h : altM (grpM 16) l 0 = .ok (p, [], g)) (hs : sizeM p ≤ 400) : parseR l = (p, 0) := by
  unfold parseR parseM
  rw [h]
  simp only [List.length_nil, Nat.lt_irrefl, if_false]
  rw [if_neg (by omega)]
theorem parseR_deep (h : altM (grpM 16) l 0 = .ok (p, [], g)) (hs : 400 < sizeM p) : parseR l = (pE, 12) := by
  unfold parseR parseM
  rw [h]
  simp only [List.length_nil, Nat.lt_irrefl, if_false]
  rw [if_pos hs]
theorem parseR_err (h : altM (grpM 16) l 0 = .error e) : parseR l = (pE, e) := by
  unfold parseR parseM
  rw [h]
end
def decF : Nat → Nat → List Int
  | 0, _ => []
  | f + 1, n => if n < 10 then [48 + (n : Int)] else decF f (n / 10) ++ [48 + ((n % 10 : Nat) : Int)]
def dec (n : Nat) : List Int := decF 3 n
theorem digM_step {n : Int} {b : Bool} {x : Int} {l : List Int} (h : 48 ≤ x ∧ x ≤ 57) : digM n b (x :: l) = digM (kmin (n * 10 + (x - 48)) 101) true l := by simp only [digM]; rw [if_pos h]
theorem digM_stop {n : Int} {b : Bool} {x : Int} {l : List Int} (h : ¬ (48 ≤ x ∧ x ≤ 57)) : digM n b (x :: l) = (n, x :: l, b) := by simp only [digM]; rw [if_neg h]
theorem dec_dig {n : Nat} (hn : n ≤ 120) {x : Int} {r : List Int} (hx : ¬ (48 ≤ x ∧ x ≤ 57)) : digM 0 false (dec n ++ x :: r) = (kmin (n : Int) 101, x :: r, true) := by
  unfold dec
  by_cases h1 : n < 10
  · simp only [decF, if_pos h1, List.cons_append, List.nil_append]
    rw [digM_step (by omega), digM_stop hx]
    congr 1
    congr 1
    omega
  · simp only [decF, if_neg h1]
    by_cases h2 : n / 10 < 10
    · simp only [if_pos h2, List.cons_append, List.nil_append]
      rw [digM_step (by omega), digM_step (by omega), digM_stop hx]
      have M := kmin_spec ((0 : Int) * 10 + (48 + ((n / 10 : Nat) : Int) - 48)) 101
      congr 1
      congr 1
      omega
    · have h3 : n / 10 / 10 < 10 := by omega
      simp only [if_neg h2, if_pos h3, List.cons_append, List.nil_append, List.append_assoc]
      rw [digM_step (by omega), digM_step (by omega), digM_step (by omega), digM_stop hx]
      have M := kmin_spec ((0 : Int) * 10 + (48 + ((n / 10 / 10 : Nat) : Int) - 48)) 101
      have M2 := kmin_spec (kmin ((0 : Int) * 10 + (48 + ((n / 10 / 10 : Nat) : Int) - 48)) 101 * 10 + (48 + ((n / 10 % 10 : Nat) : Int) - 48)) 101
      congr 1
      congr 1
      omega
theorem dec_len {n : Nat} : (dec n).length ≤ 3 := by
  unfold dec
  simp only [decF]
  split
  · simp
  · split
    · simp
    · split
      · simp
      · simp
theorem dec_rng {n : Nat} : ∀ x, x ∈ dec n → 0 ≤ x ∧ x ≤ 1000 := by
  unfold dec
  intro x hx
  simp only [decF] at hx
  split at hx
  · simp at hx; omega
  · split at hx
    · simp at hx; omega
    · split at hx
      · simp at hx; omega
      · simp at hx; omega
theorem timesM_two {m n : Nat} (hm : m ≤ 120) (hn : n ≤ 120) {r : List Int} : timesM (dec m ++ 44 :: (dec n ++ 92 :: r)) = if 100 < m ∨ 100 < n ∨ n < m then .error 11 else endM m n (92 :: r) := by
  have d1 := dec_dig hm (x := 44) (r := dec n ++ 92 :: r) (by omega)
  have d2 := dec_dig hn (x := 92) (r := r) (by omega)
  have hh : hiM (kmin (m : Int) 101) (44 :: (dec n ++ 92 :: r)) = (kmin (n : Int) 101, 92 :: r) := by
    simp only [hiM, List.head?_cons, List.tail_cons, if_true, d2]
  unfold timesM
  rw [d1]
  simp only [Bool.true_eq_false, if_false]
  rw [hh]
  have M1 := kmin_spec (m : Int) 101
  have M2 := kmin_spec (n : Int) 101
  have M3 := kmax_spec (kmin (m : Int) 101) (kmin (n : Int) 101)
  by_cases c : 100 < m ∨ 100 < n ∨ n < m
  · rw [if_pos c, if_pos (by simp only; omega)]
  · rw [if_neg c, if_neg (by simp only; omega)]
    rw [show kmin (m : Int) 101 = m by omega, show kmin (n : Int) 101 = n by omega]
theorem timesM_one {m : Nat} (hm : m ≤ 100) {r : List Int} : timesM (dec m ++ 92 :: r) = endM m m (92 :: r) := by
  have d1 := dec_dig (n := m) (by omega) (x := 92) (r := r) (by omega)
  have hh : hiM (kmin (m : Int) 101) (92 :: r) = (kmin (m : Int) 101, 92 :: r) := by
    simp [hiM]
  unfold timesM
  rw [d1]
  simp only [Bool.true_eq_false, if_false]
  rw [hh]
  have M1 := kmin_spec (m : Int) 101
  have M3 := kmax_spec (kmin (m : Int) 101) (kmin (m : Int) 101)
  rw [if_neg (by simp only; omega)]
  rw [show kmin (m : Int) 101 = m by omega]
def pm (m n : Nat) : List Int := [97, 92, 123] ++ dec m ++ [44] ++ dec n ++ [92, 125]
def pm2 (m n : Nat) : List Int := [92, 40] ++ pm m n ++ [92, 41, 92, 123] ++ dec m ++ [92, 125]
/-- The pattern 'a', repeated, ahead of what ends an alternative. -/
theorem pm_alt {grp : List Int → Int → PRes} {m n : Nat} (hm : m ≤ 120) (hn : n ≤ 120) (hc : ¬ (100 < m ∨ 100 < n ∨ n < m)) {r : List Int} (hr : endedM r = true) (hb : barM r = false) {g : Int} :
    altM grp (pm m n ++ r) g = .ok (pStar m n (pR 97), r, g) := by
  have e1 : pm m n ++ r = 97 :: 92 :: 123 :: (dec m ++ 44 :: (dec n ++ 92 :: 125 :: r)) := by simp [pm]
  have hT := timesM_two hm hn (r := 125 :: r)
  rw [if_neg hc] at hT
  have hT2 : timesM (dec m ++ 44 :: (dec n ++ 92 :: 125 :: r)) = .ok ((m : Int), (n : Int), r) := hT
  rw [e1]
  refine altM_one ?_ hb
  have ha : atomM grp true (97 :: 92 :: 123 :: (dec m ++ 44 :: (dec n ++ 92 :: 125 :: r))) g = .ok (pR 97, 92 :: 123 :: (dec m ++ 44 :: (dec n ++ 92 :: 125 :: r)), g) := rfl
  have hk : (pR 97).kind ≠ 4 := by decide
  have hk2 : (pStar m n (pR 97)).kind ≠ 4 := by show (10 : Int) ≠ 4; decide
  have hr1 : repM (pR 97) (92 :: 123 :: (dec m ++ 44 :: (dec n ++ 92 :: 125 :: r))) = .ok (some (pStar m n (pR 97), r)) := by rw [repM_times, hT2]
  have hr2 : repM (pStar m n (pR 97)) r = .ok none := by
    rcases r with _ | ⟨x, _ | ⟨y, r⟩⟩
    · rfl
    · cases hr
    · simp only [endedM, decide_eq_true_eq] at hr
      obtain ⟨rfl, hy⟩ := hr
      rcases hy with rfl | rfl <;> rfl
  have hre : repsM ((92 :: 123 :: (dec m ++ 44 :: (dec n ++ 92 :: 125 :: r))).length + 1) (pR 97) (92 :: 123 :: (dec m ++ 44 :: (dec n ++ 92 :: 125 :: r))) = .ok (pStar m n (pR 97), r) := by
    rw [repsM_some hk hr1]
    exact repsM_none hk2 hr2
  rw [show (97 :: 92 :: 123 :: (dec m ++ 44 :: (dec n ++ 92 :: 125 :: r))).length + 1 = ((123 :: (dec m ++ 44 :: (dec n ++ 92 :: 125 :: r))).length + 1 + 1) + 1 from rfl]
  rw [pieM_step rfl ha hre, pieM_done hr]
  rfl
theorem pm_ok {m n : Nat} (hm : m ≤ 120) (hn : n ≤ 120) (hc : ¬ (100 < m ∨ 100 < n ∨ n < m)) : parseR (pm m n) = (pStar m n (pR 97), 0) := by
  have h := pm_alt (grp := grpM 16) hm hn hc (r := []) rfl rfl (g := 0)
  rw [List.append_nil] at h
  refine parseR_ok h ?_
  have M1 := kmax_spec 1 (m : Int)
  have M2 := kmax_spec (kmax 1 (m : Int)) (n : Int)
  have hs : sizeM (pStar m n (pR 97)) = kmin (1 + 1 * kmax (kmax 1 (m : Int)) n) 401 := rfl
  have M3 := kmin_spec (1 + 1 * kmax (kmax 1 (m : Int)) n) 401
  omega
theorem pm_bad {m n : Nat} (hm : m ≤ 120) (hn : n ≤ 120) (hc : 100 < m ∨ 100 < n ∨ n < m) : parseR (pm m n) = (pE, 11) := by
  have e1 : pm m n = 97 :: 92 :: 123 :: (dec m ++ 44 :: (dec n ++ 92 :: [125])) := by simp [pm]
  have hT := timesM_two hm hn (r := [125])
  rw [if_pos hc] at hT
  rw [e1]
  refine parseR_err (altM_err ?_)
  have ha : atomM (grpM 16) true (97 :: 92 :: 123 :: (dec m ++ 44 :: (dec n ++ 92 :: [125]))) 0 = .ok (pR 97, 92 :: 123 :: (dec m ++ 44 :: (dec n ++ 92 :: [125])), 0) := rfl
  have hk : (pR 97).kind ≠ 4 := by decide
  have hr1 : repM (pR 97) (92 :: 123 :: (dec m ++ 44 :: (dec n ++ 92 :: [125]))) = .error 11 := by rw [repM_times, hT]
  exact pieM_errR rfl ha (repsM_err hk hr1)
theorem pm2_size {m n : Nat} (hm : m ≤ 100) (hn : n ≤ 100) (hc : m ≤ n) : (parseR (pm2 m n)).2 = if 1 + (2 + kmax 1 (n : Int)) * kmax 1 (m : Int) ≤ 400 then 0 else 12 := by
  have e1 : pm2 m n = 92 :: 40 :: (pm m n ++ 92 :: 41 :: 92 :: 123 :: (dec m ++ 92 :: [125])) := by simp [pm2]
  have hi := pm_alt (grp := grpM 15) (m := m) (n := n) (by omega) (by omega) (by omega) (r := 92 :: 41 :: 92 :: 123 :: (dec m ++ 92 :: [125])) rfl rfl (g := 1)
  have hg : grpM 16 (pm m n ++ 92 :: 41 :: 92 :: 123 :: (dec m ++ 92 :: [125])) 0 = .ok (pG 1 (pStar m n (pR 97)), 92 :: 123 :: (dec m ++ 92 :: [125]), 1) := by
    have e : grpM 16 (pm m n ++ 92 :: 41 :: 92 :: 123 :: (dec m ++ 92 :: [125])) 0 = (match altM (grpM 15) (pm m n ++ 92 :: 41 :: 92 :: 123 :: (dec m ++ 92 :: [125])) (0 + 1) with
      | .error e => .error e
      | .ok (p, t, g') => if t.length = 0 then .error 10 else .ok (pG (0 + 1) p, t.drop 2, g')) := rfl
    rw [e, show (0 : Int) + 1 = 1 from rfl, hi]
    rfl
  have ha : atomM (grpM 16) true (92 :: 40 :: (pm m n ++ 92 :: 41 :: 92 :: 123 :: (dec m ++ 92 :: [125]))) 0 = .ok (pG 1 (pStar m n (pR 97)), 92 :: 123 :: (dec m ++ 92 :: [125]), 1) := by
    have e : atomM (grpM 16) true (92 :: 40 :: (pm m n ++ 92 :: 41 :: 92 :: 123 :: (dec m ++ 92 :: [125]))) 0 = grpM 16 (pm m n ++ 92 :: 41 :: 92 :: 123 :: (dec m ++ 92 :: [125])) 0 := rfl
    rw [e, hg]
  have hT : timesM (dec m ++ 92 :: [125]) = .ok ((m : Int), (m : Int), []) := timesM_one hm
  have hk : (pG 1 (pStar m n (pR 97))).kind ≠ 4 := by show (11 : Int) ≠ 4; decide
  have hk2 : (pStar m m (pG 1 (pStar m n (pR 97)))).kind ≠ 4 := by show (10 : Int) ≠ 4; decide
  have hr1 : repM (pG 1 (pStar m n (pR 97))) (92 :: 123 :: (dec m ++ 92 :: [125])) = .ok (some (pStar m m (pG 1 (pStar m n (pR 97))), [])) := by rw [repM_times, hT]
  have hre : repsM ((92 :: 123 :: (dec m ++ 92 :: [125])).length + 1) (pG 1 (pStar m n (pR 97))) (92 :: 123 :: (dec m ++ 92 :: [125])) = .ok (pStar m m (pG 1 (pStar m n (pR 97))), []) := by
    rw [repsM_some hk hr1]
    exact repsM_none hk2 rfl
  have hA : altM (grpM 16) (pm2 m n) 0 = .ok (pStar m m (pG 1 (pStar m n (pR 97))), [], 1) := by
    rw [e1]
    refine altM_one ?_ rfl
    rw [show (92 :: 40 :: (pm m n ++ 92 :: 41 :: 92 :: 123 :: (dec m ++ 92 :: [125]))).length + 1 = ((pm m n ++ 92 :: 41 :: 92 :: 123 :: (dec m ++ 92 :: [125])).length + 1 + 1) + 1 from rfl]
    rw [pieM_step rfl ha hre, pieM_done rfl]
    rfl
  have hs : sizeM (pStar m m (pG 1 (pStar m n (pR 97)))) = kmin (1 + kmin (1 + kmin (1 + 1 * kmax (kmax 1 (m : Int)) n) 401) 401 * kmax (kmax 1 (m : Int)) m) 401 := rfl
  have M1 := kmax_spec 1 (m : Int)
  have M2 := kmax_spec (kmax 1 (m : Int)) (n : Int)
  have M2' := kmax_spec (kmax 1 (m : Int)) (m : Int)
  have M3 := kmin_spec (1 + 1 * kmax (kmax 1 (m : Int)) n) 401
  have M4 := kmin_spec (1 + kmin (1 + 1 * kmax (kmax 1 (m : Int)) n) 401) 401
  have M5 := kmax_spec 1 (n : Int)
  have hx : kmin (1 + kmin (1 + 1 * kmax (kmax 1 (m : Int)) n) 401) 401 = 2 + kmax 1 (n : Int) := by omega
  have hy : kmax (kmax 1 (m : Int)) m = kmax 1 (m : Int) := by omega
  rw [hx, hy] at hs
  have M6 := kmin_spec (1 + (2 + kmax 1 (n : Int)) * kmax 1 (m : Int)) 401
  by_cases c : 1 + (2 + kmax 1 (n : Int)) * kmax 1 (m : Int) ≤ 400
  · rw [if_pos c, parseR_ok hA (by omega)]
  · rw [if_neg c, parseR_deep hA (by omega)]
end Go.Proofs.Ytnnkcbkenofhmaa.Am
