/- FoldAdjusts, told of abstract memory: it answers true. -/
import Derived.Test.YtgfccaaalkkdlaaOk
set_option linter.unusedSimpArgs false
set_option linter.unusedVariables false
set_option maxHeartbeats 4000000
set_option maxRecDepth 20000
namespace Go.Proofs.Ytgfccaaalkkdlaa.Am
open Go Go.RowKit Go.Proofs.Try
theorem adjustN_ok {v ov nv : Value} {l : List F} {c : Int} {h : Heap} (R : FR h v l) (hl : l.length ≤ 9223372036854775807) (hr : rightB l = false) (oo : one ov = true) (on : one nv = true) :
    ACalls prog 19 #[v, chV c ov nv] h (fun y h' => y = .slice none 0 0 ∧ Keeps h h') := by
  refine acalls_of_W' func19 rfl (by kernel_rfl) (by kernel_rfl) (by simp [ntmps19]) ?_
  intro H
  have K0 := Keeps.new H 31 [.int .i64 c, ov, nv]
  have V0 := Var.new (e := 31) H (cs := [.int .i64 c, ov, nv])
  have hb : ∀ tm : Tm, tm 1 = chV c ov nv → aeff prog tm h (.box 31 (.tmp 1)) = some (.pointer (some ⟨h.size, 0, none⟩), h.new 31 [.int .i64 c, ov, nv]) := fun tm ht => box_new (by simp [ev, ht, chV, Value.cells]) ⟨_, asz31⟩ (by show (Value.cells (tm 1)).all one = true; rw [ht]; simp [chV, Value.cells, one_int, oo, on])
  simp only [wk, wt, wl, ↓reduceIte, Nat.reduceEqDiff, Nat.reduceAdd, Nat.zero_add, not_false_eq_true, not_true_eq_false, hb (atm #[v, chV c ov nv]) rfl]
  refine (right_ok (RS.keeps R K0) hl).use ?_
  rintro _ h2 ⟨rfl, K2⟩
  simp only [wk, wt, wl, ↓reduceIte, Nat.reduceEqDiff, Nat.reduceAdd, Nat.zero_add, not_false_eq_true, not_true_eq_false, hr, Bool.not_false]
  exact K0.trans K2
theorem refAdjustN_ok {v ov nv : Value} {l : List F} {c : Int} {h : Heap} (R : FR h v l) (hl : l.length ≤ 9223372036854775807) (hr : rightB l = false) (oo : one ov = true) (on : one nv = true) :
    ACalls prog 20 #[v, chV c ov nv] h (fun y h' => y = .slice none 0 0 ∧ Keeps h h') := by
  refine acalls_of_W' func20 rfl (by kernel_rfl) (by kernel_rfl) (by simp [ntmps20]) ?_
  intro H
  have K0 := Keeps.new H 31 [.int .i64 c, ov, nv]
  have V0 := Var.new (e := 31) H (cs := [.int .i64 c, ov, nv])
  have hb : ∀ tm : Tm, tm 1 = chV c ov nv → aeff prog tm h (.box 31 (.tmp 1)) = some (.pointer (some ⟨h.size, 0, none⟩), h.new 31 [.int .i64 c, ov, nv]) := fun tm ht => box_new (by simp [ev, ht, chV, Value.cells]) ⟨_, asz31⟩ (by show (Value.cells (tm 1)).all one = true; rw [ht]; simp [chV, Value.cells, one_int, oo, on])
  simp only [wk, wt, wl, ↓reduceIte, Nat.reduceEqDiff, Nat.reduceAdd, Nat.zero_add, not_false_eq_true, not_true_eq_false, hb (atm #[v, chV c ov nv]) rfl]
  refine (refRight_ok (RS.keeps R K0) hl).use_pure ?_
  simp only [wk, wt, wl, ↓reduceIte, Nat.reduceEqDiff, Nat.reduceAdd, Nat.zero_add, not_false_eq_true, not_true_eq_false, hr, Bool.not_false]
  exact K0
/-- What is left of folds that may be wrong. -/
def adjL (c o n : Int) (l : List F) : List F := if rightB l then l.filterMap (adjF c o n) else []
theorem adjL_right {c o n : Int} (hc : 0 ≤ c) (ho : 0 ≤ o) (hn : 0 ≤ n) {l : List F} : rightB (adjL c o n l) = true := by
  unfold adjL
  split
  · rename_i h; exact adj_right hc ho hn h
  · rfl
theorem adjL_len {c o n : Int} {l : List F} : (adjL c o n l).length ≤ l.length := by
  unfold adjL
  split
  · exact List.length_filterMap_le _ _
  · simp
theorem adjustA_ok {v ov nv : Value} {l : List F} {c : Int} {o n : Nat} {h : Heap} (R : FR h v l) (hl : l.length ≤ 9223372036854775807) (hn : nearF l = true) (hc : 0 ≤ c ∧ c ≤ 1099511627776) (ho : o ≤ 1000000000) (hnn : n ≤ 1000000000)
    (LO : abuiltin prog .len #[29] #[ov] = some (.int .i64 o)) (LN : abuiltin prog .len #[29] #[nv] = some (.int .i64 n)) (oo : one ov = true) (on : one nv = true) :
    ACalls prog 19 #[v, chV c ov nv] h (fun y h' => FR h' y (adjL c o n l) ∧ Keeps h h') := by
  cases hr : rightB l with
  | true => unfold adjL; rw [if_pos hr]; exact adjust_ok R hr hn hc ho hnn LO LN oo on
  | false =>
    refine (adjustN_ok R hl hr oo on).mono fun y h' hq => ?_
    obtain ⟨rfl, K⟩ := hq
    unfold adjL; rw [if_neg (by simp [hr])]; exact ⟨Rd.nil0, K⟩
theorem refAdjustA_ok {v ov nv : Value} {l : List F} {c : Int} {o n : Nat} {h : Heap} (R : FR h v l) (hl : l.length ≤ 9223372036854775807) (hn : nearF l = true) (hc : 0 ≤ c ∧ c ≤ 1099511627776) (ho : o ≤ 1000000000) (hnn : n ≤ 1000000000)
    (LO : abuiltin prog .len #[29] #[ov] = some (.int .i64 o)) (LN : abuiltin prog .len #[29] #[nv] = some (.int .i64 n)) (oo : one ov = true) (on : one nv = true) :
    ACalls prog 20 #[v, chV c ov nv] h (fun y h' => FR h' y (adjL c o n l) ∧ Keeps h h') := by
  cases hr : rightB l with
  | true => unfold adjL; rw [if_pos hr]; exact refAdjust_ok R hr hn hc ho hnn LO LN oo on
  | false =>
    refine (refAdjustN_ok R hl hr oo on).mono fun y h' hq => ?_
    obtain ⟨rfl, K⟩ := hq
    unfold adjL; rw [if_neg (by simp [hr])]; exact ⟨Rd.nil0, K⟩
theorem foldAdjusts_law {v ov nv : Value} {l : List F} {c : Int} {o n : Nat} {h : Heap} (R : FR h v l) (hl : l.length ≤ 1000000000) (ho : o ≤ 1000000000) (hnn : n ≤ 1000000000)
    (LO : abuiltin prog .len #[29] #[ov] = some (.int .i64 o)) (LN : abuiltin prog .len #[29] #[nv] = some (.int .i64 n)) (oo : one ov = true) (on : one nv = true) :
    ACalls prog 4 #[v, chV c ov nv] h (fun y h' => y = .bool true ∧ Keeps h h') := by
  refine acalls_of_W' func4 rfl (by kernel_rfl) (by kernel_rfl) (by simp [ntmps4]) ?_
  intro H
  have K0 := Keeps.new H 31 [.int .i64 c, ov, nv]
  have V0 := Var.new (e := 31) H (cs := [.int .i64 c, ov, nv])
  have hb : ∀ tm : Tm, tm 1 = chV c ov nv → aeff prog tm h (.box 31 (.tmp 1)) = some (.pointer (some ⟨h.size, 0, none⟩), h.new 31 [.int .i64 c, ov, nv]) := fun tm ht => box_new (by simp [ev, ht, chV, Value.cells]) ⟨_, asz31⟩ (by show (Value.cells (tm 1)).all one = true; rw [ht]; simp [chV, Value.cells, one_int, oo, on])
  have WC := fun {hh : Heap} (V : Var hh h.size [.int .i64 c, ov, nv]) => V.load1 (P := prog) (t := 3) underlying3 rfl (i := 0)
  simp only [List.getElem?_cons_succ, List.getElem?_cons_zero] at WC
  simp only [wk, wt, wl, ↓reduceIte, Nat.reduceEqDiff, Nat.reduceAdd, Nat.zero_add, not_false_eq_true, not_true_eq_false, hb (atm #[v, chV c ov nv]) rfl]
  refine (near_ok (RS.keeps R K0) (by omega)).use_pure ?_
  cases hnb : nearB l 0 with
  | false =>
    simp only [wk, wt, wl, ↓reduceIte, Nat.reduceEqDiff, Nat.reduceAdd, Nat.zero_add, not_false_eq_true, not_true_eq_false, WC V0, Bool.not_false]
    exact K0
  | true =>
    have hn : nearF l = true := by simpa [nearB] using hnb
    by_cases h1 : c < 0
    · have d1 : decide (c < 0) = true := decide_eq_true h1
      simp only [wk, wt, wl, ↓reduceIte, Nat.reduceEqDiff, Nat.reduceAdd, Nat.zero_add, not_false_eq_true, not_true_eq_false, WC V0, Bool.not_true, d1]
      exact K0
    · have d1 : decide (c < 0) = false := decide_eq_false h1
      by_cases h2 : 1099511627776 < c
      · have d2 : decide (1099511627776 < c) = true := decide_eq_true h2
        simp only [wk, wt, wl, ↓reduceIte, Nat.reduceEqDiff, Nat.reduceAdd, Nat.zero_add, not_false_eq_true, not_true_eq_false, WC V0, Bool.not_true, d1, d2]
        exact K0
      · have d2 : decide (1099511627776 < c) = false := decide_eq_false h2
        simp only [wk, wt, wl, ↓reduceIte, Nat.reduceEqDiff, Nat.reduceAdd, Nat.zero_add, not_false_eq_true, not_true_eq_false, WC V0, Bool.not_true, d1, d2]
        refine adraw_order [(1, false), (3, false), (0, true), (2, true), (4, true), (5, false)] mixed (by kernel_rfl) (by kernel_rfl) (by kernel_rfl) (by repeat (first | exact PF_retK | refine PF_thenK ?_ | refine PF_blockK ?_)) ?_
        have WL := fun {hh : Heap} (V : Var hh h.size [.int .i64 c, ov, nv]) => V.loadA (P := prog) (t := 31) underlying31 rfl asz31
        simp (disch := omega) only [wk, wt, wl, ↓reduceIte, Nat.reduceEqDiff, Nat.reduceAdd, Nat.zero_add, not_false_eq_true, not_true_eq_false, dK_t, WL V0, build0 underlying22 asz36]
        have O0 : OS prog h.size ((h.new 31 [.int .i64 c, ov, nv]).new 36 []) 3 cF (.slice (some ⟨(h.new 31 [.int .i64 c, ov, nv]).size, 0, none⟩) 0 1) ([] : List F) := Own.new (Ch.wf K0) (Ch.le K0) asz36 (by simp)
        have K1 := Keeps.new (Ch.wf K0) 36 []
        have V1 := Keeps.var (Ch.wf K0) K1 V0
        have hw1 := Ch.wf K1
        have K01 := K0.trans K1
        have R1 : FR _ v l := RS.keeps R K01
        have hbk : ∀ y, blkOf (.slice (some ⟨(h.new 31 [.int .i64 c, ov, nv]).size, 0, none⟩) 0 1) = some y → y = (h.new 31 [.int .i64 c, ov, nv]).size := fun y e => by cases e; rfl
        have hlt0 := V0.lt (Ch.wf K0)
        generalize (h.new 31 [.int .i64 c, ov, nv]).new 36 [] = h1 at *
        refine ⟨K1.reads (Ch.wf K0), ?_⟩
        generalize h.new 31 [.int .i64 c, ov, nv] = h0 at *
        obtain ⟨v2, h2, e2, O2, R2, C2, _⟩ := O0.appendRS hw1 (Ch.le K01) underlying22 elem36 fits36 (by decide) R1 (by simp; omega)
        rw [e2]; clear e2
        have K2 := K01.step C2 fun b hb => hb.2
        have V2 := Ch.var hw1 C2 V1 fun e => by have := hbk _ e.1; omega
        simp only [List.nil_append] at O2
        have RO2 : FR h2 v2 l := O2.rs
        simp (disch := omega) only [wk, wt, wl, ↓reduceIte, Nat.reduceEqDiff, Nat.reduceAdd, Nat.zero_add, not_false_eq_true, not_true_eq_false, dK_t]
        refine ⟨R2, ?_⟩
        refine (adjustA_ok RO2 (by omega) hn (by omega) ho hnn LO LN oo on).use ?_
        rintro y3 h3 ⟨R3, K3⟩
        have V3 := Keeps.var (Ch.wf K2) K3 V2
        have K03 := K2.trans K3
        simp (disch := omega) only [wk, wt, wl, ↓reduceIte, Nat.reduceEqDiff, Nat.reduceAdd, Nat.zero_add, not_false_eq_true, not_true_eq_false, dK_t, WL V3]
        refine ⟨K3.reads (Ch.wf K2), ?_⟩
        refine (refAdjustA_ok (RS.keeps R K03) (by omega) hn (by omega) ho hnn LO LN oo on).use ?_
        rintro y4 h4 ⟨R4, K4⟩
        have K04 := K03.trans K4
        have R34 := RS.keeps R3 K4
        have hll := adjL_len (c := c) (o := o) (n := n) (l := l)
        simp (disch := omega) only [wk, wt, wl, ↓reduceIte, Nat.reduceEqDiff, Nat.reduceAdd, Nat.zero_add, not_false_eq_true, not_true_eq_false]
        refine (sameF_ok R34 R4 (by omega)).use_pure ?_
        simp (disch := omega) only [wk, wt, wl, ↓reduceIte, Nat.reduceEqDiff, Nat.reduceAdd, Nat.zero_add, not_false_eq_true, not_true_eq_false]
        refine (right_ok R34 (by omega)).use ?_
        rintro _ h5 ⟨rfl, K5⟩
        rw [adjL_right (by omega) (by omega) (by omega)]
        simp (disch := omega) only [wk, wt, wl, ↓reduceIte, Nat.reduceEqDiff, Nat.reduceAdd, Nat.zero_add, not_false_eq_true, not_true_eq_false]
        refine awake_ok.use ?_
        rintro _ h6 ⟨rfl, K6⟩
        simp (disch := omega) only [wk, wt, wl, ↓reduceIte, Nat.reduceEqDiff, Nat.reduceAdd, Nat.zero_add, not_false_eq_true, not_true_eq_false]
        exact (K04.trans K5).trans K6
end Go.Proofs.Ytgfccaaalkkdlaa.Am
