/- The texts of this seat, one behind another (part 5 of 9): the frame (an abstract machine), the contracts of functions, the laws. -/
import Derived.Test.YtnnkcbkenofhmaaZ4
section
/- Patterns, the document's reader: contract of pieces, by a walk. -/
set_option linter.unusedSimpArgs false
set_option linter.unusedVariables false
set_option maxHeartbeats 4000000
set_option maxRecDepth 20000
namespace Go.Proofs.Ytnnkcbkenofhmaa.Am
open Go Go.RowKit Go.Proofs.Try
/-- Parts one behind the other, of a list that grows: what the loops hold. -/
structure PieQ (h hh : Heap) (rb : Nat) (pv : Value) (P : List Int) (v : Value) (acc : List Pat) (cs : List RC) (i : Nat) (g o e : Int) : Prop where
  V : Var hh h.size (reC rc0)
  O : OS prog (h.size + 1) hh 7 reC v cs
  A : RePs hh (Lt (h.size + 1)) acc cs
  hv : ∀ b, blkOf v = some b → h.size < b
  R : QD hh rb pv P i g o e
  C : Ch (Bx rb) h hh
  z : h.size + 1 ≤ hh.size
theorem PieQ.ch {h hh h2 : Heap} {rb : Nat} {pv : Value} {P : List Int} {v : Value} {acc : List Pat} {cs : List RC} {i j : Nat} {g o e g' o' e' : Int} (X : PieQ h hh rb pv P v acc cs i g o e) {D : Nat → Prop} (C : Ch D hh h2) (hD : ∀ b, D b → b = rb ∨ hh.size ≤ b) (hr : rb < h.size) (R : QD h2 rb pv P j g' o' e') :
    PieQ h h2 rb pv P v acc cs j g' o' e' :=
  have nv : ∀ b, blkOf v = some b → ¬ D b := fun b e f => by
    have h1 := (Rd.blk_lt X.O.1 e).1
    have h2 := X.hv b e
    rcases hD b f with q | q <;> omega
  ⟨Ch.var (Ch.wf X.C) C X.V (fun e => by have := X.z; rcases hD _ e with q | q <;> omega), Ch.own C X.O nv, RePs.chN C (fun b e => (hD b e).elim (fun q => .inl (by show b < _; omega)) .inr) acc cs X.A, X.hv, R, X.C.then C fun b e => (hD b e).elim .inr (fun q => .inl (by have := X.z; omega)), Nat.le_trans X.z (Ch.le C)⟩
/-- One part more. -/
theorem PieQ.push {h hh : Heap} {rb : Nat} {pv : Value} {P : List Int} {v : Value} {acc : List Pat} {cs : List RC} {i : Nat} {g o e : Int} (X : PieQ h hh rb pv P v acc cs i g o e) (hr : rb < h.size) {p : Pat} {c : RC} (Pp : ReR hh (Lt (h.size + 1)) p c) (hb : cs.length ≤ 10000001) :
    ∃ v' h2, aappend prog (hh.new 26 (reC c)) 24 24 v (.slice (some ⟨hh.size, 0, none⟩) 1 2) = some (v', h2) ∧ PieQ h h2 rb pv P v' (acc ++ [p]) (cs ++ [c]) i g o e := by
  have Hh := Ch.wf X.C
  obtain ⟨v', h2, e1, O1, C1, R1, ev⟩ := X.O.append1 (P := prog) Hh X.z underlying24 elem26 fits26 (by decide) (by decide) c rfl (by omega)
  refine ⟨v', h2, e1, ⟨Ch.var Hh C1 X.V (fun e => by have := e.2; omega), O1, RePs.snoc (RePs.reads R1 (Ch.le C1) _ _ X.A) (ReR.reads R1 (Ch.le C1) p c Pp), fun b e => ?_, X.R.ch Hh C1 (fun b e => by have := e.2; omega), X.C.then C1 fun b e => .inl (by have := e.2; omega), Nat.le_trans X.z (Ch.le C1)⟩⟩
  have e2 : hh.size + 1 = b := by rw [ev] at e; cases e; rfl
  have := X.z
  omega
theorem rep_none {p : Pat} {l : List Int} (h1 : isM [42] l = false) (h2 : isM [92, 123] l = false) : repM p l = .ok none := by
  by_cases h : repM p l = .ok none
  · exact h
  · rcases rep_cases h with ⟨t, rfl⟩ | ⟨t, rfl⟩
    · cases h1
    · cases h2
theorem rep_some {p : Pat} {l : List Int} (h : isM [42] l = true ∨ isM [92, 123] l = true) : repM p l ≠ .ok none := by
  rcases l with _ | ⟨x, l⟩
  · simp [isM] at h
  · by_cases c : x = 42
    · subst c; rw [rep_star]; simp
    · rcases l with _ | ⟨y, l⟩
      · simp [isM, c] at h
      · simp [isM, c] at h
        obtain ⟨rfl, rfl⟩ := h
        rw [show repM p (92 :: 123 :: l) = (match timesM l with | .error e => .error e | .ok (lo, hi, t) => .ok (some (pStar lo hi p, t))) from rfl]
        cases timesM l <;> simp
theorem acc_emptyQ {h : Heap} {D : Nat → Prop} {acc : List Pat} {cs : List RC} (A : RePs h D acc cs) : decide ((cs.length : Int) = 0) = acc.isEmpty := acc_empty A
theorem piecesQ_ok {k : Nat} (hk : k ≤ 16) (G : ∀ j, k = j + 1 → AltD j) {h : Heap} {rb : Nat} {pv : Value} {P : List Int} {i : Nat} {g : Int} (R : QD h rb pv P i g (16 - (k : Int)) 0) (hi : i ≤ P.length) (hP : PO P) (O : Okl (P.drop i) g) :
    DC 29 #[pt rb] h rb pv P (16 - (k : Int)) (pieM (grpM k) ((P.drop i).length + 1) [] (P.drop i) g) := by
  unfold DC
  refine acalls_of_W' func29 rfl (by kernel_rfl) (by kernel_rfl) (by simp [ntmps29]) ?_
  intro H
  have hr := R.lt H
  have hPl := hP.1
  have N1 := Keeps.new H 26 (reC rc0)
  have V1 := Var.new (e := 26) H (cs := reC rc0)
  have R1 := R.keeps H N1
  have C1 : Ch (Bx rb) h (h.new 26 (reC rc0)) := N1.mono fun _ e => e.elim
  have hz1 : (h.new 26 (reC rc0)).size = h.size + 1 := rfl
  have X0 : PieQ h (h.new 26 (reC rc0)) rb pv P nilS [] [] i g (16 - (k : Int)) 0 := ⟨V1, OS.nil, rfl, (fun b e => by cases e), R1, C1, by rw [hz1]; exact Nat.le_refl _⟩
  generalize hR : pieM (grpM k) ((P.drop i).length + 1) [] (P.drop i) g = res
  simp only [wk, wt, wl, ↓reduceIte, Nat.reduceEqDiff, Nat.reduceAdd, Nat.zero_add, not_false_eq_true, not_true_eq_false, pt, newRe, newSz]
  refine W_loopI (fun n tm hh => tm 0 = pt rb ∧ tm 2 = pt h.size ∧ ∃ (v : Value) (acc : List Pat) (cs : List RC) (i1 : Nat) (g1 o1 e1 : Int), tm 3 = v ∧ PieQ h hh rb pv P v acc cs i1 g1 o1 e1 ∧ acc.length + n ≤ P.length + 1 ∧
      ((e1 = 0 ∧ o1 = 16 - (k : Int) ∧ i1 ≤ P.length ∧ n = P.length - i1 + 1 ∧ Okl (P.drop i1) g1 ∧ ∃ m : Nat, n ≤ m ∧ res = pieM (grpM k) m acc (P.drop i1) g1) ∨ (e1 ≠ 0 ∧ n = 0 ∧ res = .error e1)))
    ⟨P.length - i + 1, (by first | rfl | (simp only [wk, wt, wl, ↓reduceIte, Nat.reduceEqDiff, Nat.reduceAdd, Nat.zero_add, not_false_eq_true, not_true_eq_false]; done) | (simp only [wk, wt, wl, ↓reduceIte, Nat.reduceEqDiff, Nat.reduceAdd, Nat.zero_add, not_false_eq_true, not_true_eq_false]; rfl) | (simp only [wk, wt, wl, ↓reduceIte, Nat.reduceEqDiff, Nat.reduceAdd, Nat.zero_add, not_false_eq_true, not_true_eq_false, pt]; done) | (simp only [wk, wt, wl, ↓reduceIte, Nat.reduceEqDiff, Nat.reduceAdd, Nat.zero_add, not_false_eq_true, not_true_eq_false, pt]; rfl)), (by first | rfl | (simp only [wk, wt, wl, ↓reduceIte, Nat.reduceEqDiff, Nat.reduceAdd, Nat.zero_add, not_false_eq_true, not_true_eq_false]; done) | (simp only [wk, wt, wl, ↓reduceIte, Nat.reduceEqDiff, Nat.reduceAdd, Nat.zero_add, not_false_eq_true, not_true_eq_false]; rfl) | (simp only [wk, wt, wl, ↓reduceIte, Nat.reduceEqDiff, Nat.reduceAdd, Nat.zero_add, not_false_eq_true, not_true_eq_false, pt]; done) | (simp only [wk, wt, wl, ↓reduceIte, Nat.reduceEqDiff, Nat.reduceAdd, Nat.zero_add, not_false_eq_true, not_true_eq_false, pt]; rfl)), nilS, [], [], i, g, _, 0, (by first | rfl | (simp only [wk, wt, wl, ↓reduceIte, Nat.reduceEqDiff, Nat.reduceAdd, Nat.zero_add, not_false_eq_true, not_true_eq_false]; done) | (simp only [wk, wt, wl, ↓reduceIte, Nat.reduceEqDiff, Nat.reduceAdd, Nat.zero_add, not_false_eq_true, not_true_eq_false]; rfl) | (simp only [wk, wt, wl, ↓reduceIte, Nat.reduceEqDiff, Nat.reduceAdd, Nat.zero_add, not_false_eq_true, not_true_eq_false, nilS]; done) | (simp only [wk, wt, wl, ↓reduceIte, Nat.reduceEqDiff, Nat.reduceAdd, Nat.zero_add, not_false_eq_true, not_true_eq_false, nilS]; rfl)), X0, by rw [List.length_nil]; omega, .inl ⟨rfl, rfl, hi, rfl, O, _, by rw [List.length_drop]; exact Nat.le_refl _, hR.symm⟩⟩ ?_
  clear X0 C1 R1 V1 N1 hz1 hR
  rintro n tm hh ⟨t0, t2, v, acc, cs, i1, g1, o1, e1, t3, X, hac, hcs⟩
  have Hh := Ch.wf X.C
  have hcl := X.A.len
  rcases hcs with ⟨rfl, rfl, hi1, rfl, hok, m, hm, hR⟩ | ⟨hne1, rfl, hR⟩
  · have d0 : decide ((0 : Int) = 0) = true := rfl
    obtain ⟨m, rfl⟩ : ∃ q, m = q + 1 := ⟨m - 1, by omega⟩
    simp only [wk, wt, wl, ↓reduceIte, Nat.reduceEqDiff, Nat.reduceAdd, Nat.zero_add, not_false_eq_true, not_true_eq_false, t0, t2, t3, pt, X.R.l4, d0, X.R.l1]
    refine (ends_ok X.R (show i1 ≤ 20000000 by omega)).use_pure ?_
    cases he : endedM (P.drop i1) with
    | true =>
      have hres : res = .ok (pCat acc, P.drop i1, g1) := by rw [hR]; simp only [pieM]; rw [he]; all_goals rfl
      simp only [wk, wt, wl, ↓reduceIte, Nat.reduceEqDiff, Nat.reduceAdd, Nat.zero_add, not_false_eq_true, not_true_eq_false, t0, t2, t3, pt]
      have hAv := Rd.one X.O.1
      have R9c : ∀ {q : Pat} {c : RC} {h9 : Heap}, pCat acc = q → ReR h9 (Lt h.size) q c → Ch (Bx rb) h h9 → QD h9 rb pv P i1 g1 (16 - (k : Int)) 0 → ∃ q' c', reV c = reV c' ∧ ReR h9 (Lt h.size) q' c' ∧ Ch (Bx rb) h h9 ∧ ((∃ (k' : Nat) (g' : Int), res = .ok (q', P.drop k', g') ∧ k' ≤ P.length ∧ QD h9 rb pv P k' g' (16 - (k : Int)) 0) ∨ (∃ (e : Int) (k' : Nat) (g' o' : Int), res = .error e ∧ e ≠ 0 ∧ QD h9 rb pv P k' g' o' e)) := (fun {q c h9} e Pq Cq Rq => ⟨q, c, rfl, Pq, Cq, .inl ⟨i1, g1, by rw [hres, e], hi1, Rq⟩⟩)
      have LNv := X.O.1.len underlying24
      rcases acc with _ | ⟨p1, _ | ⟨p2, acc⟩⟩
      · have d1 : decide ((cs.length : Int) = 0) = true := by rw [hcl]; rfl
        obtain ⟨h9, e9, l9, P9, R9, C9⟩ := fin_q (h0 := h) (D := Lt (h.size + 1)) (p := pE) (d := rc0) Hh X.V ReR.e (Nat.lt_succ_self _) X.R X.C (Nat.le_refl _) hr
        simp only [wk, wt, wl, ↓reduceIte, Nat.reduceEqDiff, Nat.reduceAdd, Nat.zero_add, not_false_eq_true, not_true_eq_false, t0, t2, t3, pt, pt, LNv, d1, build_re0, e9, l9]
        exact R9c rfl ReR.e C9 R9
      · have d1 : decide ((cs.length : Int) = 0) = false := by rw [hcl]; rfl
        have d2 : decide ((cs.length : Int) = 1) = true := by rw [hcl]; rfl
        obtain ⟨c1, hc1, P1⟩ := X.A.at (i := 0) rfl
        have IX' : aindexAddr prog 24 v (.int .i64 0) = some (.pointer (some (eltA v 7 0))) := Rd.index X.O.1 underlying24 asz26 (q := .i64) (i := 0) (by omega) (by rw [hcl]; simp)
        have LX : aload prog hh 26 (eltA v 7 0) = some (reV c1) := RS.agg X.O.1 reC_len underlying26 rfl asz26 hc1
        obtain ⟨h9, e9, l9, P9, R9, C9⟩ := fin_q (h0 := h) (d := c1) Hh X.V P1 (Nat.lt_succ_self _) X.R X.C (Nat.le_refl _) hr
        simp only [wk, wt, wl, ↓reduceIte, Nat.reduceEqDiff, Nat.reduceAdd, Nat.zero_add, not_false_eq_true, not_true_eq_false, t0, t2, t3, pt, pt, LNv, d1, d2, IX', LX, e9, l9]
        exact R9c rfl (ReR.weak (fun b e => by show b < _; have : b < h.size := e; omega) _ _ P9) C9 R9
      · have d1 : decide ((cs.length : Int) = 0) = false := by rw [hcl]; simp; omega
        have d2 : decide ((cs.length : Int) = 1) = false := by rw [hcl]; simp; omega
        have PP : ReR hh (Lt (h.size + 1)) (.mk 8 0 [] false 0 0 (p1 :: p2 :: acc)) { rc0 with k := 8, pv := v } := ReR.ps X.O.1 (fun b e f => by have := X.hv b e; have : b < h.size + 1 := f; omega) X.A
        obtain ⟨h9, e9, l9, P9, R9, C9⟩ := fin_q (h0 := h) (d := { rc0 with k := 8, pv := v }) Hh X.V PP (Nat.lt_succ_self _) X.R X.C (Nat.le_refl _) hr
        simp only [wk, wt, wl, ↓reduceIte, Nat.reduceEqDiff, Nat.reduceAdd, Nat.zero_add, not_false_eq_true, not_true_eq_false, t0, t2, t3, pt, pt, LNv, d1, d2, build_rep hAv, e9, l9]
        exact R9c rfl (ReR.weak (fun b e => by show b < _; have : b < h.size := e; omega) _ _ P9) C9 R9
    | false =>
      have hres : res = (match atomM (grpM k) acc.isEmpty (P.drop i1) g1 with
        | .error e => .error e
        | .ok (p, t, g') => match repsM (t.length + 1) p t with
          | .error e => .error e
          | .ok (q, u) => pieM (grpM k) m (acc ++ [q]) u g') := by rw [hR]; simp only [pieM]; rw [he]; all_goals rfl
      have hac0 := acc_empty X.A
      have LNv := X.O.1.len underlying24
      rcases hcase : cs with _ | ⟨c1, _ | ⟨c2, cs2⟩⟩
      · have d1 : decide ((cs.length : Int) = 0) = true := by rw [hcase]; rfl
        have hae : acc.isEmpty = true := by rw [← hac0]; exact d1
        rw [hae] at hres
        simp only [wk, wt, wl, ↓reduceIte, Nat.reduceEqDiff, Nat.reduceAdd, Nat.zero_add, not_false_eq_true, not_true_eq_false, t0, t2, t3, pt, LNv, d1]
        refine (atomQ_ok hk G X.R hP hok he).use ?_
        rintro _ h2 ⟨q1, c, rfl, P2, C2, hc2⟩
        rcases hc2 with ⟨j, g', ha, hj, Q2⟩ | ⟨e, j, g', o', ha, hne, Q2⟩
        · rw [ha] at hres
          have hlen := atomM_len (grpM_GL k) (ended_ne he) ha
          rw [List.length_drop, List.length_drop] at hlen
          have B2 : Okl (P.drop j) g' := hok.sb (atomM_sb (grpM_GS k) ha) (by rw [List.length_drop, List.length_drop]; exact hlen.2.1) hlen.2.2
          have X2 := X.ch C2 (fun b e => .inl e) hr Q2
          have N3 := Keeps.new (Ch.wf C2) 26 (reC rc0)
          obtain ⟨h3, e3, V3, C3, z3⟩ := (Var.new (e := 26) (Ch.wf C2) (cs := reC rc0)).put (Ch.wf N3) (d := c) P2.one1.1 P2.one1.2
          have K3 : Keeps h2 h3 := N3.step C3 fun b e => by omega
          have X3 := X2.ch K3 (fun b e => e.elim) hr (X2.R.keeps (Ch.wf C2) K3)
          have hz2 := Ch.le C2
          have hz := X.z
          have z3' : h3.size = h2.size + 1 := z3
          have P3 : ReR h3 (LtV (h.size + 1) h2.size) q1 c := ReR.ch K3 (fun _ e => e.elim) q1 c (ReR.up (fun b e => e.elim (fun e => .inl (by show b < _; omega)) (fun e => .inr (by omega))) q1 c P2)
          have A3 : RePs h3 (LtV (h.size + 1) h2.size) acc cs := RePs.ch K3 (fun _ e => e.elim) acc cs (RePs.up (fun b e => e.elim .inl (fun e => .inr (by omega))) acc cs X2.A)
          have hvt : ∀ b, blkOf v = some b → b < h2.size := fun b e => by have := (Rd.blk_lt X.O.1 e).1; omega
          simp only [wk, wt, wl, ↓reduceIte, Nat.reduceEqDiff, Nat.reduceAdd, Nat.zero_add, not_false_eq_true, not_true_eq_false, t0, t2, t3, pt, newRe, newSz, e3]
          refine W_loopI (fun n' tm' hh' => tm' 0 = pt rb ∧ tm' 2 = pt h.size ∧ tm' 3 = v ∧ tm' 5 = pt h2.size ∧ ∃ (q : Pat) (c' : RC) (i2 : Nat) (g2 o2 e2 : Int), Var hh' h2.size (reC c') ∧ ReR hh' (LtV (h.size + 1) h2.size) q c' ∧ RePs hh' (LtV (h.size + 1) h2.size) acc cs ∧ PieQ h hh' rb pv P v acc cs i2 g2 o2 e2 ∧ h2.size + 1 ≤ hh'.size ∧
              ((e2 = 0 ∧ o2 = 16 - (k : Int) ∧ i1 < i2 ∧ i2 ≤ P.length ∧ n' = P.length - i2 + 1 ∧ Okl (P.drop i2) g2 ∧ ∃ m2 : Nat, n' ≤ m2 ∧ res = (match repsM m2 q (P.drop i2) with | .error e => .error e | .ok (q, u) => pieM (grpM k) m (acc ++ [q]) u g2)) ∨ (e2 ≠ 0 ∧ n' = 0 ∧ res = .error e2)))
            ⟨_, (by first | rfl | (simp only [wk, wt, wl, ↓reduceIte, Nat.reduceEqDiff, Nat.reduceAdd, Nat.zero_add, not_false_eq_true, not_true_eq_false]; done) | (simp only [wk, wt, wl, ↓reduceIte, Nat.reduceEqDiff, Nat.reduceAdd, Nat.zero_add, not_false_eq_true, not_true_eq_false]; rfl) | (simp only [wk, wt, wl, ↓reduceIte, Nat.reduceEqDiff, Nat.reduceAdd, Nat.zero_add, not_false_eq_true, not_true_eq_false, t0, pt]; done) | (simp only [wk, wt, wl, ↓reduceIte, Nat.reduceEqDiff, Nat.reduceAdd, Nat.zero_add, not_false_eq_true, not_true_eq_false, t0, pt]; rfl)), (by first | rfl | (simp only [wk, wt, wl, ↓reduceIte, Nat.reduceEqDiff, Nat.reduceAdd, Nat.zero_add, not_false_eq_true, not_true_eq_false]; done) | (simp only [wk, wt, wl, ↓reduceIte, Nat.reduceEqDiff, Nat.reduceAdd, Nat.zero_add, not_false_eq_true, not_true_eq_false]; rfl) | (simp only [wk, wt, wl, ↓reduceIte, Nat.reduceEqDiff, Nat.reduceAdd, Nat.zero_add, not_false_eq_true, not_true_eq_false, t2, pt]; done) | (simp only [wk, wt, wl, ↓reduceIte, Nat.reduceEqDiff, Nat.reduceAdd, Nat.zero_add, not_false_eq_true, not_true_eq_false, t2, pt]; rfl)), (by first | rfl | (simp only [wk, wt, wl, ↓reduceIte, Nat.reduceEqDiff, Nat.reduceAdd, Nat.zero_add, not_false_eq_true, not_true_eq_false]; done) | (simp only [wk, wt, wl, ↓reduceIte, Nat.reduceEqDiff, Nat.reduceAdd, Nat.zero_add, not_false_eq_true, not_true_eq_false]; rfl) | (simp only [wk, wt, wl, ↓reduceIte, Nat.reduceEqDiff, Nat.reduceAdd, Nat.zero_add, not_false_eq_true, not_true_eq_false, t3]; done) | (simp only [wk, wt, wl, ↓reduceIte, Nat.reduceEqDiff, Nat.reduceAdd, Nat.zero_add, not_false_eq_true, not_true_eq_false, t3]; rfl)), (by first | rfl | (simp only [wk, wt, wl, ↓reduceIte, Nat.reduceEqDiff, Nat.reduceAdd, Nat.zero_add, not_false_eq_true, not_true_eq_false]; done) | (simp only [wk, wt, wl, ↓reduceIte, Nat.reduceEqDiff, Nat.reduceAdd, Nat.zero_add, not_false_eq_true, not_true_eq_false]; rfl) | (simp only [wk, wt, wl, ↓reduceIte, Nat.reduceEqDiff, Nat.reduceAdd, Nat.zero_add, not_false_eq_true, not_true_eq_false, pt]; done) | (simp only [wk, wt, wl, ↓reduceIte, Nat.reduceEqDiff, Nat.reduceAdd, Nat.zero_add, not_false_eq_true, not_true_eq_false, pt]; rfl)), q1, c, _, _, _, _, V3, P3, A3, X3, by omega, .inl ⟨rfl, rfl, by omega, hj, rfl, B2, (P.drop j).length + 1, by rw [List.length_drop]; exact Nat.le_refl _, hres⟩⟩ ?_
          clear t0 t2 t3 X3 V3 P3 A3
          rintro n' tm hh' ⟨t0, t2, t3, t5, q, c', i2, g2, o2, e2, V4, P4, A4, X4, z4, hcs⟩
          have H4 := Ch.wf X4.C
          obtain ⟨v6, h6, e6, X6⟩ := X4.push hr (ReR.weak (fun b e => .inl e) _ _ P4) (by omega)
          rcases hcs with ⟨rfl, rfl, hi12, hi2, rfl, hok, m2, hm2, hI⟩ | ⟨hne2, rfl, hI⟩
          · have d0 : decide ((0 : Int) = 0) = true := rfl
            obtain ⟨m2, rfl⟩ : ∃ q, m2 = q + 1 := ⟨m2 - 1, by omega⟩
            simp only [repsM] at hI
            have LK := V4.k0
            rw [P4.kind] at LK
            by_cases c4 : q.kind = 4
            · have d4 : decide (¬ q.kind = 4) = false := by simp [c4]
              rw [if_pos c4] at hI
              simp only [wk, wt, wl, ↓reduceIte, Nat.reduceEqDiff, Nat.reduceAdd, Nat.zero_add, not_false_eq_true, not_true_eq_false, t0, t2, t3, t5, pt, X4.R.l4, d0, LK, d4, V4.re, bsRe (h := hh') P4.one1.1 P4.one1.2, e6]
              exact ⟨P.length - i2 + 1, by omega, v6, _, _, i2, g2, _, 0, rfl, X6, by simp; omega, .inl ⟨rfl, rfl, hi2, rfl, hok, m, by omega, hI⟩⟩
            have d4 : decide (¬ q.kind = 4) = true := by simp [c4]
            rw [if_neg c4] at hI
            have goon : repM q (P.drop i2) ≠ .ok none → ∃ res2 : Except Int (Option (Pat × List Int)), res2 = repM q (P.drop i2) := fun _ => ⟨_, rfl⟩
            simp only [wk, wt, wl, ↓reduceIte, Nat.reduceEqDiff, Nat.reduceAdd, Nat.zero_add, not_false_eq_true, not_true_eq_false, t0, t2, t3, t5, pt, X4.R.l4, d0, LK, d4, X4.R.l1]
            refine (is_ok X4.R (show i2 ≤ 20000000 by omega) (str1 (a := 42))).use_pure ?_
            cases s1 : isM [42] (P.drop i2) with
            | true =>
              have s1' : isM [((42 : UInt8).toNat : Int)] (P.drop i2) = true := s1
              have hns : repM q (P.drop i2) ≠ .ok none := rep_some (.inl s1)
              simp only [wk, wt, wl, ↓reduceIte, Nat.reduceEqDiff, Nat.reduceAdd, Nat.zero_add, not_false_eq_true, not_true_eq_false, s1', t0, t2, t3, t5, pt, V4.re]
              have nD : ∀ b, LtV (h.size + 1) h2.size b → b < hh'.size := fun b e => by rcases e with e | e <;> omega
              refine (repeatQ_ok X4.R hPl P4 nD (.inl (by omega)) hns).use ?_
              rintro _ h5 ⟨q5, c5, rfl, P5, C5, hc5⟩
              have V45 := Ch.var H4 C5 V4 (by omega)
              obtain ⟨h7, e7, V7, C7, z7⟩ := V45.put (Ch.wf C5) (d := c5) P5.one1.1 P5.one1.2
              have C57 : Ch (fun b => b = rb ∨ b = h2.size) hh' h7 := (C5.mono fun b e => .inl e).then C7 fun b e => .inr (.inr e)
              have nD2 : ∀ b, (b = rb ∨ b = h2.size) → LtV (h.size + 1) h2.size b := fun b e => e.elim (fun e => .inl (by omega)) .inr
              have P7 : ReR h7 (LtV (h.size + 1) h2.size) q5 c5 := ReR.ch C7 (fun b e => .inr e) _ _ P5
              have A7 := RePs.ch C57 nD2 acc cs A4
              have X7 : ∀ {j : Nat} {g' o' e' : Int}, QD h5 rb pv P j g' o' e' → PieQ h h7 rb pv P v acc cs j g' o' e' := fun Q => ⟨Ch.var H4 C57 X4.V (fun e => by rcases e with e | e <;> omega), Ch.own C57 X4.O (fun b e f => by
                have h1 := hvt b e
                have h2 := X.hv b e
                rcases f with f | f <;> omega), RePs.weak (fun b e => .inl e) acc cs A7, X4.hv, Q.ch (Ch.wf C5) C7 (fun b e => by omega), X4.C.then C57 fun b e => e.elim .inr (fun e => .inl (by omega)), Nat.le_trans X4.z (Ch.le C57)⟩
              rcases hc5 with ⟨j, hr5, hj, Q5⟩ | ⟨e, j, hr5, hne5, Q5⟩
              · rw [hr5] at hI
                have hlu := repM_len hr5
                rw [List.length_drop, List.length_drop] at hlu
                simp only [wk, wt, wl, ↓reduceIte, Nat.reduceEqDiff, Nat.reduceAdd, Nat.zero_add, not_false_eq_true, not_true_eq_false, t0, t2, t3, t5, pt, e7]
                exact ⟨P.length - j + 1, by omega, q5, c5, j, g2, _, 0, V7, P7, A7, X7 Q5, by have := Ch.le C57; omega, .inl ⟨rfl, rfl, by omega, hj, rfl, hok.sb (repM_sb hr5) (by rw [List.length_drop, List.length_drop]; omega) (Int.le_refl _), m2, by omega, hI⟩⟩
              · rw [hr5] at hI
                simp only [wk, wt, wl, ↓reduceIte, Nat.reduceEqDiff, Nat.reduceAdd, Nat.zero_add, not_false_eq_true, not_true_eq_false, t0, t2, t3, t5, pt, e7]
                exact ⟨0, by omega, q5, c5, j, g2, _, e, V7, P7, A7, X7 Q5, by have := Ch.le C57; omega, .inr ⟨hne5, rfl, hI⟩⟩
            | false =>
              have s1' : isM [((42 : UInt8).toNat : Int)] (P.drop i2) = false := s1
              simp only [wk, wt, wl, ↓reduceIte, Nat.reduceEqDiff, Nat.reduceAdd, Nat.zero_add, not_false_eq_true, not_true_eq_false, s1', t0, t2, t3, t5, pt, X4.R.l1]
              refine (is_ok X4.R (show i2 ≤ 20000000 by omega) (str2 (a := 92) (c := 123))).use_pure ?_
              cases s2 : isM [92, 123] (P.drop i2) with
              | true =>
                have s2' : isM [((92 : UInt8).toNat : Int), ((123 : UInt8).toNat : Int)] (P.drop i2) = true := s2
                have hns : repM q (P.drop i2) ≠ .ok none := rep_some (.inr s2)
                simp only [wk, wt, wl, ↓reduceIte, Nat.reduceEqDiff, Nat.reduceAdd, Nat.zero_add, not_false_eq_true, not_true_eq_false, s2', t0, t2, t3, t5, pt, V4.re]
                have nD : ∀ b, LtV (h.size + 1) h2.size b → b < hh'.size := fun b e => by rcases e with e | e <;> omega
                refine (repeatQ_ok X4.R hPl P4 nD (.inl (by omega)) hns).use ?_
                rintro _ h5 ⟨q5, c5, rfl, P5, C5, hc5⟩
                have V45 := Ch.var H4 C5 V4 (by omega)
                obtain ⟨h7, e7, V7, C7, z7⟩ := V45.put (Ch.wf C5) (d := c5) P5.one1.1 P5.one1.2
                have C57 : Ch (fun b => b = rb ∨ b = h2.size) hh' h7 := (C5.mono fun b e => .inl e).then C7 fun b e => .inr (.inr e)
                have nD2 : ∀ b, (b = rb ∨ b = h2.size) → LtV (h.size + 1) h2.size b := fun b e => e.elim (fun e => .inl (by omega)) .inr
                have P7 : ReR h7 (LtV (h.size + 1) h2.size) q5 c5 := ReR.ch C7 (fun b e => .inr e) _ _ P5
                have A7 := RePs.ch C57 nD2 acc cs A4
                have X7 : ∀ {j : Nat} {g' o' e' : Int}, QD h5 rb pv P j g' o' e' → PieQ h h7 rb pv P v acc cs j g' o' e' := fun Q => ⟨Ch.var H4 C57 X4.V (fun e => by rcases e with e | e <;> omega), Ch.own C57 X4.O (fun b e f => by
                  have h1 := hvt b e
                  have h2 := X.hv b e
                  rcases f with f | f <;> omega), RePs.weak (fun b e => .inl e) acc cs A7, X4.hv, Q.ch (Ch.wf C5) C7 (fun b e => by omega), X4.C.then C57 fun b e => e.elim .inr (fun e => .inl (by omega)), Nat.le_trans X4.z (Ch.le C57)⟩
                rcases hc5 with ⟨j, hr5, hj, Q5⟩ | ⟨e, j, hr5, hne5, Q5⟩
                · rw [hr5] at hI
                  have hlu := repM_len hr5
                  rw [List.length_drop, List.length_drop] at hlu
                  simp only [wk, wt, wl, ↓reduceIte, Nat.reduceEqDiff, Nat.reduceAdd, Nat.zero_add, not_false_eq_true, not_true_eq_false, t0, t2, t3, t5, pt, e7]
                  exact ⟨P.length - j + 1, by omega, q5, c5, j, g2, _, 0, V7, P7, A7, X7 Q5, by have := Ch.le C57; omega, .inl ⟨rfl, rfl, by omega, hj, rfl, hok.sb (repM_sb hr5) (by rw [List.length_drop, List.length_drop]; omega) (Int.le_refl _), m2, by omega, hI⟩⟩
                · rw [hr5] at hI
                  simp only [wk, wt, wl, ↓reduceIte, Nat.reduceEqDiff, Nat.reduceAdd, Nat.zero_add, not_false_eq_true, not_true_eq_false, t0, t2, t3, t5, pt, e7]
                  exact ⟨0, by omega, q5, c5, j, g2, _, e, V7, P7, A7, X7 Q5, by have := Ch.le C57; omega, .inr ⟨hne5, rfl, hI⟩⟩
              | false =>
                have s2' : isM [((92 : UInt8).toNat : Int), ((123 : UInt8).toNat : Int)] (P.drop i2) = false := s2
                rw [rep_none s1 s2] at hI
                simp only [wk, wt, wl, ↓reduceIte, Nat.reduceEqDiff, Nat.reduceAdd, Nat.zero_add, not_false_eq_true, not_true_eq_false, s2', t0, t2, t3, t5, pt, V4.re, bsRe (h := hh') P4.one1.1 P4.one1.2, e6]
                exact ⟨P.length - i2 + 1, by omega, v6, _, _, i2, g2, _, 0, rfl, X6, by simp; omega, .inl ⟨rfl, rfl, hi2, rfl, hok, m, by omega, hI⟩⟩
          · have d0 : decide (e2 = 0) = false := decide_eq_false hne2
            simp only [wk, wt, wl, ↓reduceIte, Nat.reduceEqDiff, Nat.reduceAdd, Nat.zero_add, not_false_eq_true, not_true_eq_false, t0, t2, t3, t5, pt, X4.R.l4, d0, V4.re, bsRe (h := hh') P4.one1.1 P4.one1.2, e6]
            exact ⟨0, by omega, v6, _, _, i2, g2, o2, e2, rfl, X6, by simp; omega, .inr ⟨hne2, rfl, hI⟩⟩
        · rw [ha] at hres
          have X2 := X.ch C2 (fun b e => .inl e) hr Q2
          have N3 := Keeps.new (Ch.wf C2) 26 (reC rc0)
          obtain ⟨h3, e3, V3, C3, z3⟩ := (Var.new (e := 26) (Ch.wf C2) (cs := reC rc0)).put (Ch.wf N3) (d := c) P2.one1.1 P2.one1.2
          have K3 : Keeps h2 h3 := N3.step C3 fun b e => by omega
          have X3 := X2.ch K3 (fun b e => e.elim) hr (X2.R.keeps (Ch.wf C2) K3)
          have hz2 := Ch.le C2
          have hz := X.z
          have z3' : h3.size = h2.size + 1 := z3
          have P3 : ReR h3 (LtV (h.size + 1) h2.size) q1 c := ReR.ch K3 (fun _ e => e.elim) q1 c (ReR.up (fun b e => e.elim (fun e => .inl (by show b < _; omega)) (fun e => .inr (by omega))) q1 c P2)
          have A3 : RePs h3 (LtV (h.size + 1) h2.size) acc cs := RePs.ch K3 (fun _ e => e.elim) acc cs (RePs.up (fun b e => e.elim .inl (fun e => .inr (by omega))) acc cs X2.A)
          have hvt : ∀ b, blkOf v = some b → b < h2.size := fun b e => by have := (Rd.blk_lt X.O.1 e).1; omega
          simp only [wk, wt, wl, ↓reduceIte, Nat.reduceEqDiff, Nat.reduceAdd, Nat.zero_add, not_false_eq_true, not_true_eq_false, t0, t2, t3, pt, newRe, newSz, e3]
          refine W_loopI (fun n' tm' hh' => tm' 0 = pt rb ∧ tm' 2 = pt h.size ∧ tm' 3 = v ∧ tm' 5 = pt h2.size ∧ ∃ (q : Pat) (c' : RC) (i2 : Nat) (g2 o2 e2 : Int), Var hh' h2.size (reC c') ∧ ReR hh' (LtV (h.size + 1) h2.size) q c' ∧ RePs hh' (LtV (h.size + 1) h2.size) acc cs ∧ PieQ h hh' rb pv P v acc cs i2 g2 o2 e2 ∧ h2.size + 1 ≤ hh'.size ∧
              ((e2 = 0 ∧ o2 = 16 - (k : Int) ∧ i1 < i2 ∧ i2 ≤ P.length ∧ n' = P.length - i2 + 1 ∧ Okl (P.drop i2) g2 ∧ ∃ m2 : Nat, n' ≤ m2 ∧ res = (match repsM m2 q (P.drop i2) with | .error e => .error e | .ok (q, u) => pieM (grpM k) m (acc ++ [q]) u g2)) ∨ (e2 ≠ 0 ∧ n' = 0 ∧ res = .error e2)))
            ⟨_, (by first | rfl | (simp only [wk, wt, wl, ↓reduceIte, Nat.reduceEqDiff, Nat.reduceAdd, Nat.zero_add, not_false_eq_true, not_true_eq_false]; done) | (simp only [wk, wt, wl, ↓reduceIte, Nat.reduceEqDiff, Nat.reduceAdd, Nat.zero_add, not_false_eq_true, not_true_eq_false]; rfl) | (simp only [wk, wt, wl, ↓reduceIte, Nat.reduceEqDiff, Nat.reduceAdd, Nat.zero_add, not_false_eq_true, not_true_eq_false, t0, pt]; done) | (simp only [wk, wt, wl, ↓reduceIte, Nat.reduceEqDiff, Nat.reduceAdd, Nat.zero_add, not_false_eq_true, not_true_eq_false, t0, pt]; rfl)), (by first | rfl | (simp only [wk, wt, wl, ↓reduceIte, Nat.reduceEqDiff, Nat.reduceAdd, Nat.zero_add, not_false_eq_true, not_true_eq_false]; done) | (simp only [wk, wt, wl, ↓reduceIte, Nat.reduceEqDiff, Nat.reduceAdd, Nat.zero_add, not_false_eq_true, not_true_eq_false]; rfl) | (simp only [wk, wt, wl, ↓reduceIte, Nat.reduceEqDiff, Nat.reduceAdd, Nat.zero_add, not_false_eq_true, not_true_eq_false, t2, pt]; done) | (simp only [wk, wt, wl, ↓reduceIte, Nat.reduceEqDiff, Nat.reduceAdd, Nat.zero_add, not_false_eq_true, not_true_eq_false, t2, pt]; rfl)), (by first | rfl | (simp only [wk, wt, wl, ↓reduceIte, Nat.reduceEqDiff, Nat.reduceAdd, Nat.zero_add, not_false_eq_true, not_true_eq_false]; done) | (simp only [wk, wt, wl, ↓reduceIte, Nat.reduceEqDiff, Nat.reduceAdd, Nat.zero_add, not_false_eq_true, not_true_eq_false]; rfl) | (simp only [wk, wt, wl, ↓reduceIte, Nat.reduceEqDiff, Nat.reduceAdd, Nat.zero_add, not_false_eq_true, not_true_eq_false, t3]; done) | (simp only [wk, wt, wl, ↓reduceIte, Nat.reduceEqDiff, Nat.reduceAdd, Nat.zero_add, not_false_eq_true, not_true_eq_false, t3]; rfl)), (by first | rfl | (simp only [wk, wt, wl, ↓reduceIte, Nat.reduceEqDiff, Nat.reduceAdd, Nat.zero_add, not_false_eq_true, not_true_eq_false]; done) | (simp only [wk, wt, wl, ↓reduceIte, Nat.reduceEqDiff, Nat.reduceAdd, Nat.zero_add, not_false_eq_true, not_true_eq_false]; rfl) | (simp only [wk, wt, wl, ↓reduceIte, Nat.reduceEqDiff, Nat.reduceAdd, Nat.zero_add, not_false_eq_true, not_true_eq_false, pt]; done) | (simp only [wk, wt, wl, ↓reduceIte, Nat.reduceEqDiff, Nat.reduceAdd, Nat.zero_add, not_false_eq_true, not_true_eq_false, pt]; rfl)), q1, c, _, _, _, _, V3, P3, A3, X3, by omega, .inr ⟨hne, rfl, hres⟩⟩ ?_
          clear t0 t2 t3 X3 V3 P3 A3
          rintro n' tm hh' ⟨t0, t2, t3, t5, q, c', i2, g2, o2, e2, V4, P4, A4, X4, z4, hcs⟩
          have H4 := Ch.wf X4.C
          obtain ⟨v6, h6, e6, X6⟩ := X4.push hr (ReR.weak (fun b e => .inl e) _ _ P4) (by omega)
          rcases hcs with ⟨rfl, rfl, hi12, hi2, rfl, hok, m2, hm2, hI⟩ | ⟨hne2, rfl, hI⟩
          · have d0 : decide ((0 : Int) = 0) = true := rfl
            obtain ⟨m2, rfl⟩ : ∃ q, m2 = q + 1 := ⟨m2 - 1, by omega⟩
            simp only [repsM] at hI
            have LK := V4.k0
            rw [P4.kind] at LK
            by_cases c4 : q.kind = 4
            · have d4 : decide (¬ q.kind = 4) = false := by simp [c4]
              rw [if_pos c4] at hI
              simp only [wk, wt, wl, ↓reduceIte, Nat.reduceEqDiff, Nat.reduceAdd, Nat.zero_add, not_false_eq_true, not_true_eq_false, t0, t2, t3, t5, pt, X4.R.l4, d0, LK, d4, V4.re, bsRe (h := hh') P4.one1.1 P4.one1.2, e6]
              exact ⟨P.length - i2 + 1, by omega, v6, _, _, i2, g2, _, 0, rfl, X6, by simp; omega, .inl ⟨rfl, rfl, hi2, rfl, hok, m, by omega, hI⟩⟩
            have d4 : decide (¬ q.kind = 4) = true := by simp [c4]
            rw [if_neg c4] at hI
            have goon : repM q (P.drop i2) ≠ .ok none → ∃ res2 : Except Int (Option (Pat × List Int)), res2 = repM q (P.drop i2) := fun _ => ⟨_, rfl⟩
            simp only [wk, wt, wl, ↓reduceIte, Nat.reduceEqDiff, Nat.reduceAdd, Nat.zero_add, not_false_eq_true, not_true_eq_false, t0, t2, t3, t5, pt, X4.R.l4, d0, LK, d4, X4.R.l1]
            refine (is_ok X4.R (show i2 ≤ 20000000 by omega) (str1 (a := 42))).use_pure ?_
            cases s1 : isM [42] (P.drop i2) with
            | true =>
              have s1' : isM [((42 : UInt8).toNat : Int)] (P.drop i2) = true := s1
              have hns : repM q (P.drop i2) ≠ .ok none := rep_some (.inl s1)
              simp only [wk, wt, wl, ↓reduceIte, Nat.reduceEqDiff, Nat.reduceAdd, Nat.zero_add, not_false_eq_true, not_true_eq_false, s1', t0, t2, t3, t5, pt, V4.re]
              have nD : ∀ b, LtV (h.size + 1) h2.size b → b < hh'.size := fun b e => by rcases e with e | e <;> omega
              refine (repeatQ_ok X4.R hPl P4 nD (.inl (by omega)) hns).use ?_
              rintro _ h5 ⟨q5, c5, rfl, P5, C5, hc5⟩
              have V45 := Ch.var H4 C5 V4 (by omega)
              obtain ⟨h7, e7, V7, C7, z7⟩ := V45.put (Ch.wf C5) (d := c5) P5.one1.1 P5.one1.2
              have C57 : Ch (fun b => b = rb ∨ b = h2.size) hh' h7 := (C5.mono fun b e => .inl e).then C7 fun b e => .inr (.inr e)
              have nD2 : ∀ b, (b = rb ∨ b = h2.size) → LtV (h.size + 1) h2.size b := fun b e => e.elim (fun e => .inl (by omega)) .inr
              have P7 : ReR h7 (LtV (h.size + 1) h2.size) q5 c5 := ReR.ch C7 (fun b e => .inr e) _ _ P5
              have A7 := RePs.ch C57 nD2 acc cs A4
              have X7 : ∀ {j : Nat} {g' o' e' : Int}, QD h5 rb pv P j g' o' e' → PieQ h h7 rb pv P v acc cs j g' o' e' := fun Q => ⟨Ch.var H4 C57 X4.V (fun e => by rcases e with e | e <;> omega), Ch.own C57 X4.O (fun b e f => by
                have h1 := hvt b e
                have h2 := X.hv b e
                rcases f with f | f <;> omega), RePs.weak (fun b e => .inl e) acc cs A7, X4.hv, Q.ch (Ch.wf C5) C7 (fun b e => by omega), X4.C.then C57 fun b e => e.elim .inr (fun e => .inl (by omega)), Nat.le_trans X4.z (Ch.le C57)⟩
              rcases hc5 with ⟨j, hr5, hj, Q5⟩ | ⟨e, j, hr5, hne5, Q5⟩
              · rw [hr5] at hI
                have hlu := repM_len hr5
                rw [List.length_drop, List.length_drop] at hlu
                simp only [wk, wt, wl, ↓reduceIte, Nat.reduceEqDiff, Nat.reduceAdd, Nat.zero_add, not_false_eq_true, not_true_eq_false, t0, t2, t3, t5, pt, e7]
                exact ⟨P.length - j + 1, by omega, q5, c5, j, g2, _, 0, V7, P7, A7, X7 Q5, by have := Ch.le C57; omega, .inl ⟨rfl, rfl, by omega, hj, rfl, hok.sb (repM_sb hr5) (by rw [List.length_drop, List.length_drop]; omega) (Int.le_refl _), m2, by omega, hI⟩⟩
              · rw [hr5] at hI
                simp only [wk, wt, wl, ↓reduceIte, Nat.reduceEqDiff, Nat.reduceAdd, Nat.zero_add, not_false_eq_true, not_true_eq_false, t0, t2, t3, t5, pt, e7]
                exact ⟨0, by omega, q5, c5, j, g2, _, e, V7, P7, A7, X7 Q5, by have := Ch.le C57; omega, .inr ⟨hne5, rfl, hI⟩⟩
            | false =>
              have s1' : isM [((42 : UInt8).toNat : Int)] (P.drop i2) = false := s1
              simp only [wk, wt, wl, ↓reduceIte, Nat.reduceEqDiff, Nat.reduceAdd, Nat.zero_add, not_false_eq_true, not_true_eq_false, s1', t0, t2, t3, t5, pt, X4.R.l1]
              refine (is_ok X4.R (show i2 ≤ 20000000 by omega) (str2 (a := 92) (c := 123))).use_pure ?_
              cases s2 : isM [92, 123] (P.drop i2) with
              | true =>
                have s2' : isM [((92 : UInt8).toNat : Int), ((123 : UInt8).toNat : Int)] (P.drop i2) = true := s2
                have hns : repM q (P.drop i2) ≠ .ok none := rep_some (.inr s2)
                simp only [wk, wt, wl, ↓reduceIte, Nat.reduceEqDiff, Nat.reduceAdd, Nat.zero_add, not_false_eq_true, not_true_eq_false, s2', t0, t2, t3, t5, pt, V4.re]
                have nD : ∀ b, LtV (h.size + 1) h2.size b → b < hh'.size := fun b e => by rcases e with e | e <;> omega
                refine (repeatQ_ok X4.R hPl P4 nD (.inl (by omega)) hns).use ?_
                rintro _ h5 ⟨q5, c5, rfl, P5, C5, hc5⟩
                have V45 := Ch.var H4 C5 V4 (by omega)
                obtain ⟨h7, e7, V7, C7, z7⟩ := V45.put (Ch.wf C5) (d := c5) P5.one1.1 P5.one1.2
                have C57 : Ch (fun b => b = rb ∨ b = h2.size) hh' h7 := (C5.mono fun b e => .inl e).then C7 fun b e => .inr (.inr e)
                have nD2 : ∀ b, (b = rb ∨ b = h2.size) → LtV (h.size + 1) h2.size b := fun b e => e.elim (fun e => .inl (by omega)) .inr
                have P7 : ReR h7 (LtV (h.size + 1) h2.size) q5 c5 := ReR.ch C7 (fun b e => .inr e) _ _ P5
                have A7 := RePs.ch C57 nD2 acc cs A4
                have X7 : ∀ {j : Nat} {g' o' e' : Int}, QD h5 rb pv P j g' o' e' → PieQ h h7 rb pv P v acc cs j g' o' e' := fun Q => ⟨Ch.var H4 C57 X4.V (fun e => by rcases e with e | e <;> omega), Ch.own C57 X4.O (fun b e f => by
                  have h1 := hvt b e
                  have h2 := X.hv b e
                  rcases f with f | f <;> omega), RePs.weak (fun b e => .inl e) acc cs A7, X4.hv, Q.ch (Ch.wf C5) C7 (fun b e => by omega), X4.C.then C57 fun b e => e.elim .inr (fun e => .inl (by omega)), Nat.le_trans X4.z (Ch.le C57)⟩
                rcases hc5 with ⟨j, hr5, hj, Q5⟩ | ⟨e, j, hr5, hne5, Q5⟩
                · rw [hr5] at hI
                  have hlu := repM_len hr5
                  rw [List.length_drop, List.length_drop] at hlu
                  simp only [wk, wt, wl, ↓reduceIte, Nat.reduceEqDiff, Nat.reduceAdd, Nat.zero_add, not_false_eq_true, not_true_eq_false, t0, t2, t3, t5, pt, e7]
                  exact ⟨P.length - j + 1, by omega, q5, c5, j, g2, _, 0, V7, P7, A7, X7 Q5, by have := Ch.le C57; omega, .inl ⟨rfl, rfl, by omega, hj, rfl, hok.sb (repM_sb hr5) (by rw [List.length_drop, List.length_drop]; omega) (Int.le_refl _), m2, by omega, hI⟩⟩
                · rw [hr5] at hI
                  simp only [wk, wt, wl, ↓reduceIte, Nat.reduceEqDiff, Nat.reduceAdd, Nat.zero_add, not_false_eq_true, not_true_eq_false, t0, t2, t3, t5, pt, e7]
                  exact ⟨0, by omega, q5, c5, j, g2, _, e, V7, P7, A7, X7 Q5, by have := Ch.le C57; omega, .inr ⟨hne5, rfl, hI⟩⟩
              | false =>
                have s2' : isM [((92 : UInt8).toNat : Int), ((123 : UInt8).toNat : Int)] (P.drop i2) = false := s2
                rw [rep_none s1 s2] at hI
                simp only [wk, wt, wl, ↓reduceIte, Nat.reduceEqDiff, Nat.reduceAdd, Nat.zero_add, not_false_eq_true, not_true_eq_false, s2', t0, t2, t3, t5, pt, V4.re, bsRe (h := hh') P4.one1.1 P4.one1.2, e6]
                exact ⟨P.length - i2 + 1, by omega, v6, _, _, i2, g2, _, 0, rfl, X6, by simp; omega, .inl ⟨rfl, rfl, hi2, rfl, hok, m, by omega, hI⟩⟩
          · have d0 : decide (e2 = 0) = false := decide_eq_false hne2
            simp only [wk, wt, wl, ↓reduceIte, Nat.reduceEqDiff, Nat.reduceAdd, Nat.zero_add, not_false_eq_true, not_true_eq_false, t0, t2, t3, t5, pt, X4.R.l4, d0, V4.re, bsRe (h := hh') P4.one1.1 P4.one1.2, e6]
            exact ⟨0, by omega, v6, _, _, i2, g2, o2, e2, rfl, X6, by simp; omega, .inr ⟨hne2, rfl, hI⟩⟩
      · have d1 : decide ((cs.length : Int) = 0) = false := by rw [hcase]; rfl
        have d2 : decide ((cs.length : Int) = 1) = true := by rw [hcase]; rfl
        have hae : acc.isEmpty = false := by rw [← hac0]; exact d1
        rw [hae] at hres
        have hc1 : cs[0]? = some c1 := by rw [hcase]; rfl
        have IX' : aindexAddr prog 24 v (.int .i64 0) = some (.pointer (some (eltA v 7 0))) := Rd.index X.O.1 underlying24 asz26 (q := .i64) (i := 0) (by omega) (by rw [hcase]; simp)
        have LX := RS.fld X.O.1 reC_len (t := 3) underlying3 rfl (i := 0) (j := 0) hc1 (by decide)
        have LX' : aload prog hh 3 ⟨(eltA v 7 0).block, (eltA v 7 0).off + 0, none⟩ = some (.int .i64 c1.k) := LX
        simp only [Nat.add_zero] at LX'
        simp only [wk, wt, wl, ↓reduceIte, Nat.reduceEqDiff, Nat.reduceAdd, Nat.zero_add, not_false_eq_true, not_true_eq_false, t0, t2, t3, pt, LNv, d1, d2, IX', LX', Nat.add_zero]
        refine (atomQ_ok hk G X.R hP hok he).use ?_
        rintro _ h2 ⟨q1, c, rfl, P2, C2, hc2⟩
        rcases hc2 with ⟨j, g', ha, hj, Q2⟩ | ⟨e, j, g', o', ha, hne, Q2⟩
        · rw [ha] at hres
          have hlen := atomM_len (grpM_GL k) (ended_ne he) ha
          rw [List.length_drop, List.length_drop] at hlen
          have B2 : Okl (P.drop j) g' := hok.sb (atomM_sb (grpM_GS k) ha) (by rw [List.length_drop, List.length_drop]; exact hlen.2.1) hlen.2.2
          have X2 := X.ch C2 (fun b e => .inl e) hr Q2
          have N3 := Keeps.new (Ch.wf C2) 26 (reC rc0)
          obtain ⟨h3, e3, V3, C3, z3⟩ := (Var.new (e := 26) (Ch.wf C2) (cs := reC rc0)).put (Ch.wf N3) (d := c) P2.one1.1 P2.one1.2
          have K3 : Keeps h2 h3 := N3.step C3 fun b e => by omega
          have X3 := X2.ch K3 (fun b e => e.elim) hr (X2.R.keeps (Ch.wf C2) K3)
          have hz2 := Ch.le C2
          have hz := X.z
          have z3' : h3.size = h2.size + 1 := z3
          have P3 : ReR h3 (LtV (h.size + 1) h2.size) q1 c := ReR.ch K3 (fun _ e => e.elim) q1 c (ReR.up (fun b e => e.elim (fun e => .inl (by show b < _; omega)) (fun e => .inr (by omega))) q1 c P2)
          have A3 : RePs h3 (LtV (h.size + 1) h2.size) acc cs := RePs.ch K3 (fun _ e => e.elim) acc cs (RePs.up (fun b e => e.elim .inl (fun e => .inr (by omega))) acc cs X2.A)
          have hvt : ∀ b, blkOf v = some b → b < h2.size := fun b e => by have := (Rd.blk_lt X.O.1 e).1; omega
          simp only [wk, wt, wl, ↓reduceIte, Nat.reduceEqDiff, Nat.reduceAdd, Nat.zero_add, not_false_eq_true, not_true_eq_false, t0, t2, t3, pt, newRe, newSz, e3]
          refine W_loopI (fun n' tm' hh' => tm' 0 = pt rb ∧ tm' 2 = pt h.size ∧ tm' 3 = v ∧ tm' 5 = pt h2.size ∧ ∃ (q : Pat) (c' : RC) (i2 : Nat) (g2 o2 e2 : Int), Var hh' h2.size (reC c') ∧ ReR hh' (LtV (h.size + 1) h2.size) q c' ∧ RePs hh' (LtV (h.size + 1) h2.size) acc cs ∧ PieQ h hh' rb pv P v acc cs i2 g2 o2 e2 ∧ h2.size + 1 ≤ hh'.size ∧
              ((e2 = 0 ∧ o2 = 16 - (k : Int) ∧ i1 < i2 ∧ i2 ≤ P.length ∧ n' = P.length - i2 + 1 ∧ Okl (P.drop i2) g2 ∧ ∃ m2 : Nat, n' ≤ m2 ∧ res = (match repsM m2 q (P.drop i2) with | .error e => .error e | .ok (q, u) => pieM (grpM k) m (acc ++ [q]) u g2)) ∨ (e2 ≠ 0 ∧ n' = 0 ∧ res = .error e2)))
            ⟨_, (by first | rfl | (simp only [wk, wt, wl, ↓reduceIte, Nat.reduceEqDiff, Nat.reduceAdd, Nat.zero_add, not_false_eq_true, not_true_eq_false]; done) | (simp only [wk, wt, wl, ↓reduceIte, Nat.reduceEqDiff, Nat.reduceAdd, Nat.zero_add, not_false_eq_true, not_true_eq_false]; rfl) | (simp only [wk, wt, wl, ↓reduceIte, Nat.reduceEqDiff, Nat.reduceAdd, Nat.zero_add, not_false_eq_true, not_true_eq_false, t0, pt]; done) | (simp only [wk, wt, wl, ↓reduceIte, Nat.reduceEqDiff, Nat.reduceAdd, Nat.zero_add, not_false_eq_true, not_true_eq_false, t0, pt]; rfl)), (by first | rfl | (simp only [wk, wt, wl, ↓reduceIte, Nat.reduceEqDiff, Nat.reduceAdd, Nat.zero_add, not_false_eq_true, not_true_eq_false]; done) | (simp only [wk, wt, wl, ↓reduceIte, Nat.reduceEqDiff, Nat.reduceAdd, Nat.zero_add, not_false_eq_true, not_true_eq_false]; rfl) | (simp only [wk, wt, wl, ↓reduceIte, Nat.reduceEqDiff, Nat.reduceAdd, Nat.zero_add, not_false_eq_true, not_true_eq_false, t2, pt]; done) | (simp only [wk, wt, wl, ↓reduceIte, Nat.reduceEqDiff, Nat.reduceAdd, Nat.zero_add, not_false_eq_true, not_true_eq_false, t2, pt]; rfl)), (by first | rfl | (simp only [wk, wt, wl, ↓reduceIte, Nat.reduceEqDiff, Nat.reduceAdd, Nat.zero_add, not_false_eq_true, not_true_eq_false]; done) | (simp only [wk, wt, wl, ↓reduceIte, Nat.reduceEqDiff, Nat.reduceAdd, Nat.zero_add, not_false_eq_true, not_true_eq_false]; rfl) | (simp only [wk, wt, wl, ↓reduceIte, Nat.reduceEqDiff, Nat.reduceAdd, Nat.zero_add, not_false_eq_true, not_true_eq_false, t3]; done) | (simp only [wk, wt, wl, ↓reduceIte, Nat.reduceEqDiff, Nat.reduceAdd, Nat.zero_add, not_false_eq_true, not_true_eq_false, t3]; rfl)), (by first | rfl | (simp only [wk, wt, wl, ↓reduceIte, Nat.reduceEqDiff, Nat.reduceAdd, Nat.zero_add, not_false_eq_true, not_true_eq_false]; done) | (simp only [wk, wt, wl, ↓reduceIte, Nat.reduceEqDiff, Nat.reduceAdd, Nat.zero_add, not_false_eq_true, not_true_eq_false]; rfl) | (simp only [wk, wt, wl, ↓reduceIte, Nat.reduceEqDiff, Nat.reduceAdd, Nat.zero_add, not_false_eq_true, not_true_eq_false, pt]; done) | (simp only [wk, wt, wl, ↓reduceIte, Nat.reduceEqDiff, Nat.reduceAdd, Nat.zero_add, not_false_eq_true, not_true_eq_false, pt]; rfl)), q1, c, _, _, _, _, V3, P3, A3, X3, by omega, .inl ⟨rfl, rfl, by omega, hj, rfl, B2, (P.drop j).length + 1, by rw [List.length_drop]; exact Nat.le_refl _, hres⟩⟩ ?_
          clear t0 t2 t3 X3 V3 P3 A3
          rintro n' tm hh' ⟨t0, t2, t3, t5, q, c', i2, g2, o2, e2, V4, P4, A4, X4, z4, hcs⟩
          have H4 := Ch.wf X4.C
          obtain ⟨v6, h6, e6, X6⟩ := X4.push hr (ReR.weak (fun b e => .inl e) _ _ P4) (by omega)
          rcases hcs with ⟨rfl, rfl, hi12, hi2, rfl, hok, m2, hm2, hI⟩ | ⟨hne2, rfl, hI⟩
          · have d0 : decide ((0 : Int) = 0) = true := rfl
            obtain ⟨m2, rfl⟩ : ∃ q, m2 = q + 1 := ⟨m2 - 1, by omega⟩
            simp only [repsM] at hI
            have LK := V4.k0
            rw [P4.kind] at LK
            by_cases c4 : q.kind = 4
            · have d4 : decide (¬ q.kind = 4) = false := by simp [c4]
              rw [if_pos c4] at hI
              simp only [wk, wt, wl, ↓reduceIte, Nat.reduceEqDiff, Nat.reduceAdd, Nat.zero_add, not_false_eq_true, not_true_eq_false, t0, t2, t3, t5, pt, X4.R.l4, d0, LK, d4, V4.re, bsRe (h := hh') P4.one1.1 P4.one1.2, e6]
              exact ⟨P.length - i2 + 1, by omega, v6, _, _, i2, g2, _, 0, rfl, X6, by simp; omega, .inl ⟨rfl, rfl, hi2, rfl, hok, m, by omega, hI⟩⟩
            have d4 : decide (¬ q.kind = 4) = true := by simp [c4]
            rw [if_neg c4] at hI
            have goon : repM q (P.drop i2) ≠ .ok none → ∃ res2 : Except Int (Option (Pat × List Int)), res2 = repM q (P.drop i2) := fun _ => ⟨_, rfl⟩
            simp only [wk, wt, wl, ↓reduceIte, Nat.reduceEqDiff, Nat.reduceAdd, Nat.zero_add, not_false_eq_true, not_true_eq_false, t0, t2, t3, t5, pt, X4.R.l4, d0, LK, d4, X4.R.l1]
            refine (is_ok X4.R (show i2 ≤ 20000000 by omega) (str1 (a := 42))).use_pure ?_
            cases s1 : isM [42] (P.drop i2) with
            | true =>
              have s1' : isM [((42 : UInt8).toNat : Int)] (P.drop i2) = true := s1
              have hns : repM q (P.drop i2) ≠ .ok none := rep_some (.inl s1)
              simp only [wk, wt, wl, ↓reduceIte, Nat.reduceEqDiff, Nat.reduceAdd, Nat.zero_add, not_false_eq_true, not_true_eq_false, s1', t0, t2, t3, t5, pt, V4.re]
              have nD : ∀ b, LtV (h.size + 1) h2.size b → b < hh'.size := fun b e => by rcases e with e | e <;> omega
              refine (repeatQ_ok X4.R hPl P4 nD (.inl (by omega)) hns).use ?_
              rintro _ h5 ⟨q5, c5, rfl, P5, C5, hc5⟩
              have V45 := Ch.var H4 C5 V4 (by omega)
              obtain ⟨h7, e7, V7, C7, z7⟩ := V45.put (Ch.wf C5) (d := c5) P5.one1.1 P5.one1.2
              have C57 : Ch (fun b => b = rb ∨ b = h2.size) hh' h7 := (C5.mono fun b e => .inl e).then C7 fun b e => .inr (.inr e)
              have nD2 : ∀ b, (b = rb ∨ b = h2.size) → LtV (h.size + 1) h2.size b := fun b e => e.elim (fun e => .inl (by omega)) .inr
              have P7 : ReR h7 (LtV (h.size + 1) h2.size) q5 c5 := ReR.ch C7 (fun b e => .inr e) _ _ P5
              have A7 := RePs.ch C57 nD2 acc cs A4
              have X7 : ∀ {j : Nat} {g' o' e' : Int}, QD h5 rb pv P j g' o' e' → PieQ h h7 rb pv P v acc cs j g' o' e' := fun Q => ⟨Ch.var H4 C57 X4.V (fun e => by rcases e with e | e <;> omega), Ch.own C57 X4.O (fun b e f => by
                have h1 := hvt b e
                have h2 := X.hv b e
                rcases f with f | f <;> omega), RePs.weak (fun b e => .inl e) acc cs A7, X4.hv, Q.ch (Ch.wf C5) C7 (fun b e => by omega), X4.C.then C57 fun b e => e.elim .inr (fun e => .inl (by omega)), Nat.le_trans X4.z (Ch.le C57)⟩
              rcases hc5 with ⟨j, hr5, hj, Q5⟩ | ⟨e, j, hr5, hne5, Q5⟩
              · rw [hr5] at hI
                have hlu := repM_len hr5
                rw [List.length_drop, List.length_drop] at hlu
                simp only [wk, wt, wl, ↓reduceIte, Nat.reduceEqDiff, Nat.reduceAdd, Nat.zero_add, not_false_eq_true, not_true_eq_false, t0, t2, t3, t5, pt, e7]
                exact ⟨P.length - j + 1, by omega, q5, c5, j, g2, _, 0, V7, P7, A7, X7 Q5, by have := Ch.le C57; omega, .inl ⟨rfl, rfl, by omega, hj, rfl, hok.sb (repM_sb hr5) (by rw [List.length_drop, List.length_drop]; omega) (Int.le_refl _), m2, by omega, hI⟩⟩
              · rw [hr5] at hI
                simp only [wk, wt, wl, ↓reduceIte, Nat.reduceEqDiff, Nat.reduceAdd, Nat.zero_add, not_false_eq_true, not_true_eq_false, t0, t2, t3, t5, pt, e7]
                exact ⟨0, by omega, q5, c5, j, g2, _, e, V7, P7, A7, X7 Q5, by have := Ch.le C57; omega, .inr ⟨hne5, rfl, hI⟩⟩
            | false =>
              have s1' : isM [((42 : UInt8).toNat : Int)] (P.drop i2) = false := s1
              simp only [wk, wt, wl, ↓reduceIte, Nat.reduceEqDiff, Nat.reduceAdd, Nat.zero_add, not_false_eq_true, not_true_eq_false, s1', t0, t2, t3, t5, pt, X4.R.l1]
              refine (is_ok X4.R (show i2 ≤ 20000000 by omega) (str2 (a := 92) (c := 123))).use_pure ?_
              cases s2 : isM [92, 123] (P.drop i2) with
              | true =>
                have s2' : isM [((92 : UInt8).toNat : Int), ((123 : UInt8).toNat : Int)] (P.drop i2) = true := s2
                have hns : repM q (P.drop i2) ≠ .ok none := rep_some (.inr s2)
                simp only [wk, wt, wl, ↓reduceIte, Nat.reduceEqDiff, Nat.reduceAdd, Nat.zero_add, not_false_eq_true, not_true_eq_false, s2', t0, t2, t3, t5, pt, V4.re]
                have nD : ∀ b, LtV (h.size + 1) h2.size b → b < hh'.size := fun b e => by rcases e with e | e <;> omega
                refine (repeatQ_ok X4.R hPl P4 nD (.inl (by omega)) hns).use ?_
                rintro _ h5 ⟨q5, c5, rfl, P5, C5, hc5⟩
                have V45 := Ch.var H4 C5 V4 (by omega)
                obtain ⟨h7, e7, V7, C7, z7⟩ := V45.put (Ch.wf C5) (d := c5) P5.one1.1 P5.one1.2
                have C57 : Ch (fun b => b = rb ∨ b = h2.size) hh' h7 := (C5.mono fun b e => .inl e).then C7 fun b e => .inr (.inr e)
                have nD2 : ∀ b, (b = rb ∨ b = h2.size) → LtV (h.size + 1) h2.size b := fun b e => e.elim (fun e => .inl (by omega)) .inr
                have P7 : ReR h7 (LtV (h.size + 1) h2.size) q5 c5 := ReR.ch C7 (fun b e => .inr e) _ _ P5
                have A7 := RePs.ch C57 nD2 acc cs A4
                have X7 : ∀ {j : Nat} {g' o' e' : Int}, QD h5 rb pv P j g' o' e' → PieQ h h7 rb pv P v acc cs j g' o' e' := fun Q => ⟨Ch.var H4 C57 X4.V (fun e => by rcases e with e | e <;> omega), Ch.own C57 X4.O (fun b e f => by
                  have h1 := hvt b e
                  have h2 := X.hv b e
                  rcases f with f | f <;> omega), RePs.weak (fun b e => .inl e) acc cs A7, X4.hv, Q.ch (Ch.wf C5) C7 (fun b e => by omega), X4.C.then C57 fun b e => e.elim .inr (fun e => .inl (by omega)), Nat.le_trans X4.z (Ch.le C57)⟩
                rcases hc5 with ⟨j, hr5, hj, Q5⟩ | ⟨e, j, hr5, hne5, Q5⟩
                · rw [hr5] at hI
                  have hlu := repM_len hr5
                  rw [List.length_drop, List.length_drop] at hlu
                  simp only [wk, wt, wl, ↓reduceIte, Nat.reduceEqDiff, Nat.reduceAdd, Nat.zero_add, not_false_eq_true, not_true_eq_false, t0, t2, t3, t5, pt, e7]
                  exact ⟨P.length - j + 1, by omega, q5, c5, j, g2, _, 0, V7, P7, A7, X7 Q5, by have := Ch.le C57; omega, .inl ⟨rfl, rfl, by omega, hj, rfl, hok.sb (repM_sb hr5) (by rw [List.length_drop, List.length_drop]; omega) (Int.le_refl _), m2, by omega, hI⟩⟩
                · rw [hr5] at hI
                  simp only [wk, wt, wl, ↓reduceIte, Nat.reduceEqDiff, Nat.reduceAdd, Nat.zero_add, not_false_eq_true, not_true_eq_false, t0, t2, t3, t5, pt, e7]
                  exact ⟨0, by omega, q5, c5, j, g2, _, e, V7, P7, A7, X7 Q5, by have := Ch.le C57; omega, .inr ⟨hne5, rfl, hI⟩⟩
              | false =>
                have s2' : isM [((92 : UInt8).toNat : Int), ((123 : UInt8).toNat : Int)] (P.drop i2) = false := s2
                rw [rep_none s1 s2] at hI
                simp only [wk, wt, wl, ↓reduceIte, Nat.reduceEqDiff, Nat.reduceAdd, Nat.zero_add, not_false_eq_true, not_true_eq_false, s2', t0, t2, t3, t5, pt, V4.re, bsRe (h := hh') P4.one1.1 P4.one1.2, e6]
                exact ⟨P.length - i2 + 1, by omega, v6, _, _, i2, g2, _, 0, rfl, X6, by simp; omega, .inl ⟨rfl, rfl, hi2, rfl, hok, m, by omega, hI⟩⟩
          · have d0 : decide (e2 = 0) = false := decide_eq_false hne2
            simp only [wk, wt, wl, ↓reduceIte, Nat.reduceEqDiff, Nat.reduceAdd, Nat.zero_add, not_false_eq_true, not_true_eq_false, t0, t2, t3, t5, pt, X4.R.l4, d0, V4.re, bsRe (h := hh') P4.one1.1 P4.one1.2, e6]
            exact ⟨0, by omega, v6, _, _, i2, g2, o2, e2, rfl, X6, by simp; omega, .inr ⟨hne2, rfl, hI⟩⟩
        · rw [ha] at hres
          have X2 := X.ch C2 (fun b e => .inl e) hr Q2
          have N3 := Keeps.new (Ch.wf C2) 26 (reC rc0)
          obtain ⟨h3, e3, V3, C3, z3⟩ := (Var.new (e := 26) (Ch.wf C2) (cs := reC rc0)).put (Ch.wf N3) (d := c) P2.one1.1 P2.one1.2
          have K3 : Keeps h2 h3 := N3.step C3 fun b e => by omega
          have X3 := X2.ch K3 (fun b e => e.elim) hr (X2.R.keeps (Ch.wf C2) K3)
          have hz2 := Ch.le C2
          have hz := X.z
          have z3' : h3.size = h2.size + 1 := z3
          have P3 : ReR h3 (LtV (h.size + 1) h2.size) q1 c := ReR.ch K3 (fun _ e => e.elim) q1 c (ReR.up (fun b e => e.elim (fun e => .inl (by show b < _; omega)) (fun e => .inr (by omega))) q1 c P2)
          have A3 : RePs h3 (LtV (h.size + 1) h2.size) acc cs := RePs.ch K3 (fun _ e => e.elim) acc cs (RePs.up (fun b e => e.elim .inl (fun e => .inr (by omega))) acc cs X2.A)
          have hvt : ∀ b, blkOf v = some b → b < h2.size := fun b e => by have := (Rd.blk_lt X.O.1 e).1; omega
          simp only [wk, wt, wl, ↓reduceIte, Nat.reduceEqDiff, Nat.reduceAdd, Nat.zero_add, not_false_eq_true, not_true_eq_false, t0, t2, t3, pt, newRe, newSz, e3]
          refine W_loopI (fun n' tm' hh' => tm' 0 = pt rb ∧ tm' 2 = pt h.size ∧ tm' 3 = v ∧ tm' 5 = pt h2.size ∧ ∃ (q : Pat) (c' : RC) (i2 : Nat) (g2 o2 e2 : Int), Var hh' h2.size (reC c') ∧ ReR hh' (LtV (h.size + 1) h2.size) q c' ∧ RePs hh' (LtV (h.size + 1) h2.size) acc cs ∧ PieQ h hh' rb pv P v acc cs i2 g2 o2 e2 ∧ h2.size + 1 ≤ hh'.size ∧
              ((e2 = 0 ∧ o2 = 16 - (k : Int) ∧ i1 < i2 ∧ i2 ≤ P.length ∧ n' = P.length - i2 + 1 ∧ Okl (P.drop i2) g2 ∧ ∃ m2 : Nat, n' ≤ m2 ∧ res = (match repsM m2 q (P.drop i2) with | .error e => .error e | .ok (q, u) => pieM (grpM k) m (acc ++ [q]) u g2)) ∨ (e2 ≠ 0 ∧ n' = 0 ∧ res = .error e2)))
            ⟨_, (by first | rfl | (simp only [wk, wt, wl, ↓reduceIte, Nat.reduceEqDiff, Nat.reduceAdd, Nat.zero_add, not_false_eq_true, not_true_eq_false]; done) | (simp only [wk, wt, wl, ↓reduceIte, Nat.reduceEqDiff, Nat.reduceAdd, Nat.zero_add, not_false_eq_true, not_true_eq_false]; rfl) | (simp only [wk, wt, wl, ↓reduceIte, Nat.reduceEqDiff, Nat.reduceAdd, Nat.zero_add, not_false_eq_true, not_true_eq_false, t0, pt]; done) | (simp only [wk, wt, wl, ↓reduceIte, Nat.reduceEqDiff, Nat.reduceAdd, Nat.zero_add, not_false_eq_true, not_true_eq_false, t0, pt]; rfl)), (by first | rfl | (simp only [wk, wt, wl, ↓reduceIte, Nat.reduceEqDiff, Nat.reduceAdd, Nat.zero_add, not_false_eq_true, not_true_eq_false]; done) | (simp only [wk, wt, wl, ↓reduceIte, Nat.reduceEqDiff, Nat.reduceAdd, Nat.zero_add, not_false_eq_true, not_true_eq_false]; rfl) | (simp only [wk, wt, wl, ↓reduceIte, Nat.reduceEqDiff, Nat.reduceAdd, Nat.zero_add, not_false_eq_true, not_true_eq_false, t2, pt]; done) | (simp only [wk, wt, wl, ↓reduceIte, Nat.reduceEqDiff, Nat.reduceAdd, Nat.zero_add, not_false_eq_true, not_true_eq_false, t2, pt]; rfl)), (by first | rfl | (simp only [wk, wt, wl, ↓reduceIte, Nat.reduceEqDiff, Nat.reduceAdd, Nat.zero_add, not_false_eq_true, not_true_eq_false]; done) | (simp only [wk, wt, wl, ↓reduceIte, Nat.reduceEqDiff, Nat.reduceAdd, Nat.zero_add, not_false_eq_true, not_true_eq_false]; rfl) | (simp only [wk, wt, wl, ↓reduceIte, Nat.reduceEqDiff, Nat.reduceAdd, Nat.zero_add, not_false_eq_true, not_true_eq_false, t3]; done) | (simp only [wk, wt, wl, ↓reduceIte, Nat.reduceEqDiff, Nat.reduceAdd, Nat.zero_add, not_false_eq_true, not_true_eq_false, t3]; rfl)), (by first | rfl | (simp only [wk, wt, wl, ↓reduceIte, Nat.reduceEqDiff, Nat.reduceAdd, Nat.zero_add, not_false_eq_true, not_true_eq_false]; done) | (simp only [wk, wt, wl, ↓reduceIte, Nat.reduceEqDiff, Nat.reduceAdd, Nat.zero_add, not_false_eq_true, not_true_eq_false]; rfl) | (simp only [wk, wt, wl, ↓reduceIte, Nat.reduceEqDiff, Nat.reduceAdd, Nat.zero_add, not_false_eq_true, not_true_eq_false, pt]; done) | (simp only [wk, wt, wl, ↓reduceIte, Nat.reduceEqDiff, Nat.reduceAdd, Nat.zero_add, not_false_eq_true, not_true_eq_false, pt]; rfl)), q1, c, _, _, _, _, V3, P3, A3, X3, by omega, .inr ⟨hne, rfl, hres⟩⟩ ?_
          clear t0 t2 t3 X3 V3 P3 A3
          rintro n' tm hh' ⟨t0, t2, t3, t5, q, c', i2, g2, o2, e2, V4, P4, A4, X4, z4, hcs⟩
          have H4 := Ch.wf X4.C
          obtain ⟨v6, h6, e6, X6⟩ := X4.push hr (ReR.weak (fun b e => .inl e) _ _ P4) (by omega)
          rcases hcs with ⟨rfl, rfl, hi12, hi2, rfl, hok, m2, hm2, hI⟩ | ⟨hne2, rfl, hI⟩
          · have d0 : decide ((0 : Int) = 0) = true := rfl
            obtain ⟨m2, rfl⟩ : ∃ q, m2 = q + 1 := ⟨m2 - 1, by omega⟩
            simp only [repsM] at hI
            have LK := V4.k0
            rw [P4.kind] at LK
            by_cases c4 : q.kind = 4
            · have d4 : decide (¬ q.kind = 4) = false := by simp [c4]
              rw [if_pos c4] at hI
              simp only [wk, wt, wl, ↓reduceIte, Nat.reduceEqDiff, Nat.reduceAdd, Nat.zero_add, not_false_eq_true, not_true_eq_false, t0, t2, t3, t5, pt, X4.R.l4, d0, LK, d4, V4.re, bsRe (h := hh') P4.one1.1 P4.one1.2, e6]
              exact ⟨P.length - i2 + 1, by omega, v6, _, _, i2, g2, _, 0, rfl, X6, by simp; omega, .inl ⟨rfl, rfl, hi2, rfl, hok, m, by omega, hI⟩⟩
            have d4 : decide (¬ q.kind = 4) = true := by simp [c4]
            rw [if_neg c4] at hI
            have goon : repM q (P.drop i2) ≠ .ok none → ∃ res2 : Except Int (Option (Pat × List Int)), res2 = repM q (P.drop i2) := fun _ => ⟨_, rfl⟩
            simp only [wk, wt, wl, ↓reduceIte, Nat.reduceEqDiff, Nat.reduceAdd, Nat.zero_add, not_false_eq_true, not_true_eq_false, t0, t2, t3, t5, pt, X4.R.l4, d0, LK, d4, X4.R.l1]
            refine (is_ok X4.R (show i2 ≤ 20000000 by omega) (str1 (a := 42))).use_pure ?_
            cases s1 : isM [42] (P.drop i2) with
            | true =>
              have s1' : isM [((42 : UInt8).toNat : Int)] (P.drop i2) = true := s1
              have hns : repM q (P.drop i2) ≠ .ok none := rep_some (.inl s1)
              simp only [wk, wt, wl, ↓reduceIte, Nat.reduceEqDiff, Nat.reduceAdd, Nat.zero_add, not_false_eq_true, not_true_eq_false, s1', t0, t2, t3, t5, pt, V4.re]
              have nD : ∀ b, LtV (h.size + 1) h2.size b → b < hh'.size := fun b e => by rcases e with e | e <;> omega
              refine (repeatQ_ok X4.R hPl P4 nD (.inl (by omega)) hns).use ?_
              rintro _ h5 ⟨q5, c5, rfl, P5, C5, hc5⟩
              have V45 := Ch.var H4 C5 V4 (by omega)
              obtain ⟨h7, e7, V7, C7, z7⟩ := V45.put (Ch.wf C5) (d := c5) P5.one1.1 P5.one1.2
              have C57 : Ch (fun b => b = rb ∨ b = h2.size) hh' h7 := (C5.mono fun b e => .inl e).then C7 fun b e => .inr (.inr e)
              have nD2 : ∀ b, (b = rb ∨ b = h2.size) → LtV (h.size + 1) h2.size b := fun b e => e.elim (fun e => .inl (by omega)) .inr
              have P7 : ReR h7 (LtV (h.size + 1) h2.size) q5 c5 := ReR.ch C7 (fun b e => .inr e) _ _ P5
              have A7 := RePs.ch C57 nD2 acc cs A4
              have X7 : ∀ {j : Nat} {g' o' e' : Int}, QD h5 rb pv P j g' o' e' → PieQ h h7 rb pv P v acc cs j g' o' e' := fun Q => ⟨Ch.var H4 C57 X4.V (fun e => by rcases e with e | e <;> omega), Ch.own C57 X4.O (fun b e f => by
                have h1 := hvt b e
                have h2 := X.hv b e
                rcases f with f | f <;> omega), RePs.weak (fun b e => .inl e) acc cs A7, X4.hv, Q.ch (Ch.wf C5) C7 (fun b e => by omega), X4.C.then C57 fun b e => e.elim .inr (fun e => .inl (by omega)), Nat.le_trans X4.z (Ch.le C57)⟩
              rcases hc5 with ⟨j, hr5, hj, Q5⟩ | ⟨e, j, hr5, hne5, Q5⟩
              · rw [hr5] at hI
                have hlu := repM_len hr5
                rw [List.length_drop, List.length_drop] at hlu
                simp only [wk, wt, wl, ↓reduceIte, Nat.reduceEqDiff, Nat.reduceAdd, Nat.zero_add, not_false_eq_true, not_true_eq_false, t0, t2, t3, t5, pt, e7]
                exact ⟨P.length - j + 1, by omega, q5, c5, j, g2, _, 0, V7, P7, A7, X7 Q5, by have := Ch.le C57; omega, .inl ⟨rfl, rfl, by omega, hj, rfl, hok.sb (repM_sb hr5) (by rw [List.length_drop, List.length_drop]; omega) (Int.le_refl _), m2, by omega, hI⟩⟩
              · rw [hr5] at hI
                simp only [wk, wt, wl, ↓reduceIte, Nat.reduceEqDiff, Nat.reduceAdd, Nat.zero_add, not_false_eq_true, not_true_eq_false, t0, t2, t3, t5, pt, e7]
                exact ⟨0, by omega, q5, c5, j, g2, _, e, V7, P7, A7, X7 Q5, by have := Ch.le C57; omega, .inr ⟨hne5, rfl, hI⟩⟩
            | false =>
              have s1' : isM [((42 : UInt8).toNat : Int)] (P.drop i2) = false := s1
              simp only [wk, wt, wl, ↓reduceIte, Nat.reduceEqDiff, Nat.reduceAdd, Nat.zero_add, not_false_eq_true, not_true_eq_false, s1', t0, t2, t3, t5, pt, X4.R.l1]
              refine (is_ok X4.R (show i2 ≤ 20000000 by omega) (str2 (a := 92) (c := 123))).use_pure ?_
              cases s2 : isM [92, 123] (P.drop i2) with
              | true =>
                have s2' : isM [((92 : UInt8).toNat : Int), ((123 : UInt8).toNat : Int)] (P.drop i2) = true := s2
                have hns : repM q (P.drop i2) ≠ .ok none := rep_some (.inr s2)
                simp only [wk, wt, wl, ↓reduceIte, Nat.reduceEqDiff, Nat.reduceAdd, Nat.zero_add, not_false_eq_true, not_true_eq_false, s2', t0, t2, t3, t5, pt, V4.re]
                have nD : ∀ b, LtV (h.size + 1) h2.size b → b < hh'.size := fun b e => by rcases e with e | e <;> omega
                refine (repeatQ_ok X4.R hPl P4 nD (.inl (by omega)) hns).use ?_
                rintro _ h5 ⟨q5, c5, rfl, P5, C5, hc5⟩
                have V45 := Ch.var H4 C5 V4 (by omega)
                obtain ⟨h7, e7, V7, C7, z7⟩ := V45.put (Ch.wf C5) (d := c5) P5.one1.1 P5.one1.2
                have C57 : Ch (fun b => b = rb ∨ b = h2.size) hh' h7 := (C5.mono fun b e => .inl e).then C7 fun b e => .inr (.inr e)
                have nD2 : ∀ b, (b = rb ∨ b = h2.size) → LtV (h.size + 1) h2.size b := fun b e => e.elim (fun e => .inl (by omega)) .inr
                have P7 : ReR h7 (LtV (h.size + 1) h2.size) q5 c5 := ReR.ch C7 (fun b e => .inr e) _ _ P5
                have A7 := RePs.ch C57 nD2 acc cs A4
                have X7 : ∀ {j : Nat} {g' o' e' : Int}, QD h5 rb pv P j g' o' e' → PieQ h h7 rb pv P v acc cs j g' o' e' := fun Q => ⟨Ch.var H4 C57 X4.V (fun e => by rcases e with e | e <;> omega), Ch.own C57 X4.O (fun b e f => by
                  have h1 := hvt b e
                  have h2 := X.hv b e
                  rcases f with f | f <;> omega), RePs.weak (fun b e => .inl e) acc cs A7, X4.hv, Q.ch (Ch.wf C5) C7 (fun b e => by omega), X4.C.then C57 fun b e => e.elim .inr (fun e => .inl (by omega)), Nat.le_trans X4.z (Ch.le C57)⟩
                rcases hc5 with ⟨j, hr5, hj, Q5⟩ | ⟨e, j, hr5, hne5, Q5⟩
                · rw [hr5] at hI
                  have hlu := repM_len hr5
                  rw [List.length_drop, List.length_drop] at hlu
                  simp only [wk, wt, wl, ↓reduceIte, Nat.reduceEqDiff, Nat.reduceAdd, Nat.zero_add, not_false_eq_true, not_true_eq_false, t0, t2, t3, t5, pt, e7]
                  exact ⟨P.length - j + 1, by omega, q5, c5, j, g2, _, 0, V7, P7, A7, X7 Q5, by have := Ch.le C57; omega, .inl ⟨rfl, rfl, by omega, hj, rfl, hok.sb (repM_sb hr5) (by rw [List.length_drop, List.length_drop]; omega) (Int.le_refl _), m2, by omega, hI⟩⟩
                · rw [hr5] at hI
                  simp only [wk, wt, wl, ↓reduceIte, Nat.reduceEqDiff, Nat.reduceAdd, Nat.zero_add, not_false_eq_true, not_true_eq_false, t0, t2, t3, t5, pt, e7]
                  exact ⟨0, by omega, q5, c5, j, g2, _, e, V7, P7, A7, X7 Q5, by have := Ch.le C57; omega, .inr ⟨hne5, rfl, hI⟩⟩
              | false =>
                have s2' : isM [((92 : UInt8).toNat : Int), ((123 : UInt8).toNat : Int)] (P.drop i2) = false := s2
                rw [rep_none s1 s2] at hI
                simp only [wk, wt, wl, ↓reduceIte, Nat.reduceEqDiff, Nat.reduceAdd, Nat.zero_add, not_false_eq_true, not_true_eq_false, s2', t0, t2, t3, t5, pt, V4.re, bsRe (h := hh') P4.one1.1 P4.one1.2, e6]
                exact ⟨P.length - i2 + 1, by omega, v6, _, _, i2, g2, _, 0, rfl, X6, by simp; omega, .inl ⟨rfl, rfl, hi2, rfl, hok, m, by omega, hI⟩⟩
          · have d0 : decide (e2 = 0) = false := decide_eq_false hne2
            simp only [wk, wt, wl, ↓reduceIte, Nat.reduceEqDiff, Nat.reduceAdd, Nat.zero_add, not_false_eq_true, not_true_eq_false, t0, t2, t3, t5, pt, X4.R.l4, d0, V4.re, bsRe (h := hh') P4.one1.1 P4.one1.2, e6]
            exact ⟨0, by omega, v6, _, _, i2, g2, o2, e2, rfl, X6, by simp; omega, .inr ⟨hne2, rfl, hI⟩⟩
      · have d1 : decide ((cs.length : Int) = 0) = false := by rw [hcase]; simp; omega
        have d2 : decide ((cs.length : Int) = 1) = false := by rw [hcase]; simp; omega
        have hae : acc.isEmpty = false := by rw [← hac0]; exact d1
        rw [hae] at hres
        simp only [wk, wt, wl, ↓reduceIte, Nat.reduceEqDiff, Nat.reduceAdd, Nat.zero_add, not_false_eq_true, not_true_eq_false, t0, t2, t3, pt, LNv, d1, d2]
        refine (atomQ_ok hk G X.R hP hok he).use ?_
        rintro _ h2 ⟨q1, c, rfl, P2, C2, hc2⟩
        rcases hc2 with ⟨j, g', ha, hj, Q2⟩ | ⟨e, j, g', o', ha, hne, Q2⟩
        · rw [ha] at hres
          have hlen := atomM_len (grpM_GL k) (ended_ne he) ha
          rw [List.length_drop, List.length_drop] at hlen
          have B2 : Okl (P.drop j) g' := hok.sb (atomM_sb (grpM_GS k) ha) (by rw [List.length_drop, List.length_drop]; exact hlen.2.1) hlen.2.2
          have X2 := X.ch C2 (fun b e => .inl e) hr Q2
          have N3 := Keeps.new (Ch.wf C2) 26 (reC rc0)
          obtain ⟨h3, e3, V3, C3, z3⟩ := (Var.new (e := 26) (Ch.wf C2) (cs := reC rc0)).put (Ch.wf N3) (d := c) P2.one1.1 P2.one1.2
          have K3 : Keeps h2 h3 := N3.step C3 fun b e => by omega
          have X3 := X2.ch K3 (fun b e => e.elim) hr (X2.R.keeps (Ch.wf C2) K3)
          have hz2 := Ch.le C2
          have hz := X.z
          have z3' : h3.size = h2.size + 1 := z3
          have P3 : ReR h3 (LtV (h.size + 1) h2.size) q1 c := ReR.ch K3 (fun _ e => e.elim) q1 c (ReR.up (fun b e => e.elim (fun e => .inl (by show b < _; omega)) (fun e => .inr (by omega))) q1 c P2)
          have A3 : RePs h3 (LtV (h.size + 1) h2.size) acc cs := RePs.ch K3 (fun _ e => e.elim) acc cs (RePs.up (fun b e => e.elim .inl (fun e => .inr (by omega))) acc cs X2.A)
          have hvt : ∀ b, blkOf v = some b → b < h2.size := fun b e => by have := (Rd.blk_lt X.O.1 e).1; omega
          simp only [wk, wt, wl, ↓reduceIte, Nat.reduceEqDiff, Nat.reduceAdd, Nat.zero_add, not_false_eq_true, not_true_eq_false, t0, t2, t3, pt, newRe, newSz, e3]
          refine W_loopI (fun n' tm' hh' => tm' 0 = pt rb ∧ tm' 2 = pt h.size ∧ tm' 3 = v ∧ tm' 5 = pt h2.size ∧ ∃ (q : Pat) (c' : RC) (i2 : Nat) (g2 o2 e2 : Int), Var hh' h2.size (reC c') ∧ ReR hh' (LtV (h.size + 1) h2.size) q c' ∧ RePs hh' (LtV (h.size + 1) h2.size) acc cs ∧ PieQ h hh' rb pv P v acc cs i2 g2 o2 e2 ∧ h2.size + 1 ≤ hh'.size ∧
              ((e2 = 0 ∧ o2 = 16 - (k : Int) ∧ i1 < i2 ∧ i2 ≤ P.length ∧ n' = P.length - i2 + 1 ∧ Okl (P.drop i2) g2 ∧ ∃ m2 : Nat, n' ≤ m2 ∧ res = (match repsM m2 q (P.drop i2) with | .error e => .error e | .ok (q, u) => pieM (grpM k) m (acc ++ [q]) u g2)) ∨ (e2 ≠ 0 ∧ n' = 0 ∧ res = .error e2)))
            ⟨_, (by first | rfl | (simp only [wk, wt, wl, ↓reduceIte, Nat.reduceEqDiff, Nat.reduceAdd, Nat.zero_add, not_false_eq_true, not_true_eq_false]; done) | (simp only [wk, wt, wl, ↓reduceIte, Nat.reduceEqDiff, Nat.reduceAdd, Nat.zero_add, not_false_eq_true, not_true_eq_false]; rfl) | (simp only [wk, wt, wl, ↓reduceIte, Nat.reduceEqDiff, Nat.reduceAdd, Nat.zero_add, not_false_eq_true, not_true_eq_false, t0, pt]; done) | (simp only [wk, wt, wl, ↓reduceIte, Nat.reduceEqDiff, Nat.reduceAdd, Nat.zero_add, not_false_eq_true, not_true_eq_false, t0, pt]; rfl)), (by first | rfl | (simp only [wk, wt, wl, ↓reduceIte, Nat.reduceEqDiff, Nat.reduceAdd, Nat.zero_add, not_false_eq_true, not_true_eq_false]; done) | (simp only [wk, wt, wl, ↓reduceIte, Nat.reduceEqDiff, Nat.reduceAdd, Nat.zero_add, not_false_eq_true, not_true_eq_false]; rfl) | (simp only [wk, wt, wl, ↓reduceIte, Nat.reduceEqDiff, Nat.reduceAdd, Nat.zero_add, not_false_eq_true, not_true_eq_false, t2, pt]; done) | (simp only [wk, wt, wl, ↓reduceIte, Nat.reduceEqDiff, Nat.reduceAdd, Nat.zero_add, not_false_eq_true, not_true_eq_false, t2, pt]; rfl)), (by first | rfl | (simp only [wk, wt, wl, ↓reduceIte, Nat.reduceEqDiff, Nat.reduceAdd, Nat.zero_add, not_false_eq_true, not_true_eq_false]; done) | (simp only [wk, wt, wl, ↓reduceIte, Nat.reduceEqDiff, Nat.reduceAdd, Nat.zero_add, not_false_eq_true, not_true_eq_false]; rfl) | (simp only [wk, wt, wl, ↓reduceIte, Nat.reduceEqDiff, Nat.reduceAdd, Nat.zero_add, not_false_eq_true, not_true_eq_false, t3]; done) | (simp only [wk, wt, wl, ↓reduceIte, Nat.reduceEqDiff, Nat.reduceAdd, Nat.zero_add, not_false_eq_true, not_true_eq_false, t3]; rfl)), (by first | rfl | (simp only [wk, wt, wl, ↓reduceIte, Nat.reduceEqDiff, Nat.reduceAdd, Nat.zero_add, not_false_eq_true, not_true_eq_false]; done) | (simp only [wk, wt, wl, ↓reduceIte, Nat.reduceEqDiff, Nat.reduceAdd, Nat.zero_add, not_false_eq_true, not_true_eq_false]; rfl) | (simp only [wk, wt, wl, ↓reduceIte, Nat.reduceEqDiff, Nat.reduceAdd, Nat.zero_add, not_false_eq_true, not_true_eq_false, pt]; done) | (simp only [wk, wt, wl, ↓reduceIte, Nat.reduceEqDiff, Nat.reduceAdd, Nat.zero_add, not_false_eq_true, not_true_eq_false, pt]; rfl)), q1, c, _, _, _, _, V3, P3, A3, X3, by omega, .inl ⟨rfl, rfl, by omega, hj, rfl, B2, (P.drop j).length + 1, by rw [List.length_drop]; exact Nat.le_refl _, hres⟩⟩ ?_
          clear t0 t2 t3 X3 V3 P3 A3
          rintro n' tm hh' ⟨t0, t2, t3, t5, q, c', i2, g2, o2, e2, V4, P4, A4, X4, z4, hcs⟩
          have H4 := Ch.wf X4.C
          obtain ⟨v6, h6, e6, X6⟩ := X4.push hr (ReR.weak (fun b e => .inl e) _ _ P4) (by omega)
          rcases hcs with ⟨rfl, rfl, hi12, hi2, rfl, hok, m2, hm2, hI⟩ | ⟨hne2, rfl, hI⟩
          · have d0 : decide ((0 : Int) = 0) = true := rfl
            obtain ⟨m2, rfl⟩ : ∃ q, m2 = q + 1 := ⟨m2 - 1, by omega⟩
            simp only [repsM] at hI
            have LK := V4.k0
            rw [P4.kind] at LK
            by_cases c4 : q.kind = 4
            · have d4 : decide (¬ q.kind = 4) = false := by simp [c4]
              rw [if_pos c4] at hI
              simp only [wk, wt, wl, ↓reduceIte, Nat.reduceEqDiff, Nat.reduceAdd, Nat.zero_add, not_false_eq_true, not_true_eq_false, t0, t2, t3, t5, pt, X4.R.l4, d0, LK, d4, V4.re, bsRe (h := hh') P4.one1.1 P4.one1.2, e6]
              exact ⟨P.length - i2 + 1, by omega, v6, _, _, i2, g2, _, 0, rfl, X6, by simp; omega, .inl ⟨rfl, rfl, hi2, rfl, hok, m, by omega, hI⟩⟩
            have d4 : decide (¬ q.kind = 4) = true := by simp [c4]
            rw [if_neg c4] at hI
            have goon : repM q (P.drop i2) ≠ .ok none → ∃ res2 : Except Int (Option (Pat × List Int)), res2 = repM q (P.drop i2) := fun _ => ⟨_, rfl⟩
            simp only [wk, wt, wl, ↓reduceIte, Nat.reduceEqDiff, Nat.reduceAdd, Nat.zero_add, not_false_eq_true, not_true_eq_false, t0, t2, t3, t5, pt, X4.R.l4, d0, LK, d4, X4.R.l1]
            refine (is_ok X4.R (show i2 ≤ 20000000 by omega) (str1 (a := 42))).use_pure ?_
            cases s1 : isM [42] (P.drop i2) with
            | true =>
              have s1' : isM [((42 : UInt8).toNat : Int)] (P.drop i2) = true := s1
              have hns : repM q (P.drop i2) ≠ .ok none := rep_some (.inl s1)
              simp only [wk, wt, wl, ↓reduceIte, Nat.reduceEqDiff, Nat.reduceAdd, Nat.zero_add, not_false_eq_true, not_true_eq_false, s1', t0, t2, t3, t5, pt, V4.re]
              have nD : ∀ b, LtV (h.size + 1) h2.size b → b < hh'.size := fun b e => by rcases e with e | e <;> omega
              refine (repeatQ_ok X4.R hPl P4 nD (.inl (by omega)) hns).use ?_
              rintro _ h5 ⟨q5, c5, rfl, P5, C5, hc5⟩
              have V45 := Ch.var H4 C5 V4 (by omega)
              obtain ⟨h7, e7, V7, C7, z7⟩ := V45.put (Ch.wf C5) (d := c5) P5.one1.1 P5.one1.2
              have C57 : Ch (fun b => b = rb ∨ b = h2.size) hh' h7 := (C5.mono fun b e => .inl e).then C7 fun b e => .inr (.inr e)
              have nD2 : ∀ b, (b = rb ∨ b = h2.size) → LtV (h.size + 1) h2.size b := fun b e => e.elim (fun e => .inl (by omega)) .inr
              have P7 : ReR h7 (LtV (h.size + 1) h2.size) q5 c5 := ReR.ch C7 (fun b e => .inr e) _ _ P5
              have A7 := RePs.ch C57 nD2 acc cs A4
              have X7 : ∀ {j : Nat} {g' o' e' : Int}, QD h5 rb pv P j g' o' e' → PieQ h h7 rb pv P v acc cs j g' o' e' := fun Q => ⟨Ch.var H4 C57 X4.V (fun e => by rcases e with e | e <;> omega), Ch.own C57 X4.O (fun b e f => by
                have h1 := hvt b e
                have h2 := X.hv b e
                rcases f with f | f <;> omega), RePs.weak (fun b e => .inl e) acc cs A7, X4.hv, Q.ch (Ch.wf C5) C7 (fun b e => by omega), X4.C.then C57 fun b e => e.elim .inr (fun e => .inl (by omega)), Nat.le_trans X4.z (Ch.le C57)⟩
              rcases hc5 with ⟨j, hr5, hj, Q5⟩ | ⟨e, j, hr5, hne5, Q5⟩
              · rw [hr5] at hI
                have hlu := repM_len hr5
                rw [List.length_drop, List.length_drop] at hlu
                simp only [wk, wt, wl, ↓reduceIte, Nat.reduceEqDiff, Nat.reduceAdd, Nat.zero_add, not_false_eq_true, not_true_eq_false, t0, t2, t3, t5, pt, e7]
                exact ⟨P.length - j + 1, by omega, q5, c5, j, g2, _, 0, V7, P7, A7, X7 Q5, by have := Ch.le C57; omega, .inl ⟨rfl, rfl, by omega, hj, rfl, hok.sb (repM_sb hr5) (by rw [List.length_drop, List.length_drop]; omega) (Int.le_refl _), m2, by omega, hI⟩⟩
              · rw [hr5] at hI
                simp only [wk, wt, wl, ↓reduceIte, Nat.reduceEqDiff, Nat.reduceAdd, Nat.zero_add, not_false_eq_true, not_true_eq_false, t0, t2, t3, t5, pt, e7]
                exact ⟨0, by omega, q5, c5, j, g2, _, e, V7, P7, A7, X7 Q5, by have := Ch.le C57; omega, .inr ⟨hne5, rfl, hI⟩⟩
            | false =>
              have s1' : isM [((42 : UInt8).toNat : Int)] (P.drop i2) = false := s1
              simp only [wk, wt, wl, ↓reduceIte, Nat.reduceEqDiff, Nat.reduceAdd, Nat.zero_add, not_false_eq_true, not_true_eq_false, s1', t0, t2, t3, t5, pt, X4.R.l1]
              refine (is_ok X4.R (show i2 ≤ 20000000 by omega) (str2 (a := 92) (c := 123))).use_pure ?_
              cases s2 : isM [92, 123] (P.drop i2) with
              | true =>
                have s2' : isM [((92 : UInt8).toNat : Int), ((123 : UInt8).toNat : Int)] (P.drop i2) = true := s2
                have hns : repM q (P.drop i2) ≠ .ok none := rep_some (.inr s2)
                simp only [wk, wt, wl, ↓reduceIte, Nat.reduceEqDiff, Nat.reduceAdd, Nat.zero_add, not_false_eq_true, not_true_eq_false, s2', t0, t2, t3, t5, pt, V4.re]
                have nD : ∀ b, LtV (h.size + 1) h2.size b → b < hh'.size := fun b e => by rcases e with e | e <;> omega
                refine (repeatQ_ok X4.R hPl P4 nD (.inl (by omega)) hns).use ?_
                rintro _ h5 ⟨q5, c5, rfl, P5, C5, hc5⟩
                have V45 := Ch.var H4 C5 V4 (by omega)
                obtain ⟨h7, e7, V7, C7, z7⟩ := V45.put (Ch.wf C5) (d := c5) P5.one1.1 P5.one1.2
                have C57 : Ch (fun b => b = rb ∨ b = h2.size) hh' h7 := (C5.mono fun b e => .inl e).then C7 fun b e => .inr (.inr e)
                have nD2 : ∀ b, (b = rb ∨ b = h2.size) → LtV (h.size + 1) h2.size b := fun b e => e.elim (fun e => .inl (by omega)) .inr
                have P7 : ReR h7 (LtV (h.size + 1) h2.size) q5 c5 := ReR.ch C7 (fun b e => .inr e) _ _ P5
                have A7 := RePs.ch C57 nD2 acc cs A4
                have X7 : ∀ {j : Nat} {g' o' e' : Int}, QD h5 rb pv P j g' o' e' → PieQ h h7 rb pv P v acc cs j g' o' e' := fun Q => ⟨Ch.var H4 C57 X4.V (fun e => by rcases e with e | e <;> omega), Ch.own C57 X4.O (fun b e f => by
                  have h1 := hvt b e
                  have h2 := X.hv b e
                  rcases f with f | f <;> omega), RePs.weak (fun b e => .inl e) acc cs A7, X4.hv, Q.ch (Ch.wf C5) C7 (fun b e => by omega), X4.C.then C57 fun b e => e.elim .inr (fun e => .inl (by omega)), Nat.le_trans X4.z (Ch.le C57)⟩
                rcases hc5 with ⟨j, hr5, hj, Q5⟩ | ⟨e, j, hr5, hne5, Q5⟩
                · rw [hr5] at hI
                  have hlu := repM_len hr5
                  rw [List.length_drop, List.length_drop] at hlu
                  simp only [wk, wt, wl, ↓reduceIte, Nat.reduceEqDiff, Nat.reduceAdd, Nat.zero_add, not_false_eq_true, not_true_eq_false, t0, t2, t3, t5, pt, e7]
                  exact ⟨P.length - j + 1, by omega, q5, c5, j, g2, _, 0, V7, P7, A7, X7 Q5, by have := Ch.le C57; omega, .inl ⟨rfl, rfl, by omega, hj, rfl, hok.sb (repM_sb hr5) (by rw [List.length_drop, List.length_drop]; omega) (Int.le_refl _), m2, by omega, hI⟩⟩
                · rw [hr5] at hI
                  simp only [wk, wt, wl, ↓reduceIte, Nat.reduceEqDiff, Nat.reduceAdd, Nat.zero_add, not_false_eq_true, not_true_eq_false, t0, t2, t3, t5, pt, e7]
                  exact ⟨0, by omega, q5, c5, j, g2, _, e, V7, P7, A7, X7 Q5, by have := Ch.le C57; omega, .inr ⟨hne5, rfl, hI⟩⟩
              | false =>
                have s2' : isM [((92 : UInt8).toNat : Int), ((123 : UInt8).toNat : Int)] (P.drop i2) = false := s2
                rw [rep_none s1 s2] at hI
                simp only [wk, wt, wl, ↓reduceIte, Nat.reduceEqDiff, Nat.reduceAdd, Nat.zero_add, not_false_eq_true, not_true_eq_false, s2', t0, t2, t3, t5, pt, V4.re, bsRe (h := hh') P4.one1.1 P4.one1.2, e6]
                exact ⟨P.length - i2 + 1, by omega, v6, _, _, i2, g2, _, 0, rfl, X6, by simp; omega, .inl ⟨rfl, rfl, hi2, rfl, hok, m, by omega, hI⟩⟩
          · have d0 : decide (e2 = 0) = false := decide_eq_false hne2
            simp only [wk, wt, wl, ↓reduceIte, Nat.reduceEqDiff, Nat.reduceAdd, Nat.zero_add, not_false_eq_true, not_true_eq_false, t0, t2, t3, t5, pt, X4.R.l4, d0, V4.re, bsRe (h := hh') P4.one1.1 P4.one1.2, e6]
            exact ⟨0, by omega, v6, _, _, i2, g2, o2, e2, rfl, X6, by simp; omega, .inr ⟨hne2, rfl, hI⟩⟩
        · rw [ha] at hres
          have X2 := X.ch C2 (fun b e => .inl e) hr Q2
          have N3 := Keeps.new (Ch.wf C2) 26 (reC rc0)
          obtain ⟨h3, e3, V3, C3, z3⟩ := (Var.new (e := 26) (Ch.wf C2) (cs := reC rc0)).put (Ch.wf N3) (d := c) P2.one1.1 P2.one1.2
          have K3 : Keeps h2 h3 := N3.step C3 fun b e => by omega
          have X3 := X2.ch K3 (fun b e => e.elim) hr (X2.R.keeps (Ch.wf C2) K3)
          have hz2 := Ch.le C2
          have hz := X.z
          have z3' : h3.size = h2.size + 1 := z3
          have P3 : ReR h3 (LtV (h.size + 1) h2.size) q1 c := ReR.ch K3 (fun _ e => e.elim) q1 c (ReR.up (fun b e => e.elim (fun e => .inl (by show b < _; omega)) (fun e => .inr (by omega))) q1 c P2)
          have A3 : RePs h3 (LtV (h.size + 1) h2.size) acc cs := RePs.ch K3 (fun _ e => e.elim) acc cs (RePs.up (fun b e => e.elim .inl (fun e => .inr (by omega))) acc cs X2.A)
          have hvt : ∀ b, blkOf v = some b → b < h2.size := fun b e => by have := (Rd.blk_lt X.O.1 e).1; omega
          simp only [wk, wt, wl, ↓reduceIte, Nat.reduceEqDiff, Nat.reduceAdd, Nat.zero_add, not_false_eq_true, not_true_eq_false, t0, t2, t3, pt, newRe, newSz, e3]
          refine W_loopI (fun n' tm' hh' => tm' 0 = pt rb ∧ tm' 2 = pt h.size ∧ tm' 3 = v ∧ tm' 5 = pt h2.size ∧ ∃ (q : Pat) (c' : RC) (i2 : Nat) (g2 o2 e2 : Int), Var hh' h2.size (reC c') ∧ ReR hh' (LtV (h.size + 1) h2.size) q c' ∧ RePs hh' (LtV (h.size + 1) h2.size) acc cs ∧ PieQ h hh' rb pv P v acc cs i2 g2 o2 e2 ∧ h2.size + 1 ≤ hh'.size ∧
              ((e2 = 0 ∧ o2 = 16 - (k : Int) ∧ i1 < i2 ∧ i2 ≤ P.length ∧ n' = P.length - i2 + 1 ∧ Okl (P.drop i2) g2 ∧ ∃ m2 : Nat, n' ≤ m2 ∧ res = (match repsM m2 q (P.drop i2) with | .error e => .error e | .ok (q, u) => pieM (grpM k) m (acc ++ [q]) u g2)) ∨ (e2 ≠ 0 ∧ n' = 0 ∧ res = .error e2)))
            ⟨_, (by first | rfl | (simp only [wk, wt, wl, ↓reduceIte, Nat.reduceEqDiff, Nat.reduceAdd, Nat.zero_add, not_false_eq_true, not_true_eq_false]; done) | (simp only [wk, wt, wl, ↓reduceIte, Nat.reduceEqDiff, Nat.reduceAdd, Nat.zero_add, not_false_eq_true, not_true_eq_false]; rfl) | (simp only [wk, wt, wl, ↓reduceIte, Nat.reduceEqDiff, Nat.reduceAdd, Nat.zero_add, not_false_eq_true, not_true_eq_false, t0, pt]; done) | (simp only [wk, wt, wl, ↓reduceIte, Nat.reduceEqDiff, Nat.reduceAdd, Nat.zero_add, not_false_eq_true, not_true_eq_false, t0, pt]; rfl)), (by first | rfl | (simp only [wk, wt, wl, ↓reduceIte, Nat.reduceEqDiff, Nat.reduceAdd, Nat.zero_add, not_false_eq_true, not_true_eq_false]; done) | (simp only [wk, wt, wl, ↓reduceIte, Nat.reduceEqDiff, Nat.reduceAdd, Nat.zero_add, not_false_eq_true, not_true_eq_false]; rfl) | (simp only [wk, wt, wl, ↓reduceIte, Nat.reduceEqDiff, Nat.reduceAdd, Nat.zero_add, not_false_eq_true, not_true_eq_false, t2, pt]; done) | (simp only [wk, wt, wl, ↓reduceIte, Nat.reduceEqDiff, Nat.reduceAdd, Nat.zero_add, not_false_eq_true, not_true_eq_false, t2, pt]; rfl)), (by first | rfl | (simp only [wk, wt, wl, ↓reduceIte, Nat.reduceEqDiff, Nat.reduceAdd, Nat.zero_add, not_false_eq_true, not_true_eq_false]; done) | (simp only [wk, wt, wl, ↓reduceIte, Nat.reduceEqDiff, Nat.reduceAdd, Nat.zero_add, not_false_eq_true, not_true_eq_false]; rfl) | (simp only [wk, wt, wl, ↓reduceIte, Nat.reduceEqDiff, Nat.reduceAdd, Nat.zero_add, not_false_eq_true, not_true_eq_false, t3]; done) | (simp only [wk, wt, wl, ↓reduceIte, Nat.reduceEqDiff, Nat.reduceAdd, Nat.zero_add, not_false_eq_true, not_true_eq_false, t3]; rfl)), (by first | rfl | (simp only [wk, wt, wl, ↓reduceIte, Nat.reduceEqDiff, Nat.reduceAdd, Nat.zero_add, not_false_eq_true, not_true_eq_false]; done) | (simp only [wk, wt, wl, ↓reduceIte, Nat.reduceEqDiff, Nat.reduceAdd, Nat.zero_add, not_false_eq_true, not_true_eq_false]; rfl) | (simp only [wk, wt, wl, ↓reduceIte, Nat.reduceEqDiff, Nat.reduceAdd, Nat.zero_add, not_false_eq_true, not_true_eq_false, pt]; done) | (simp only [wk, wt, wl, ↓reduceIte, Nat.reduceEqDiff, Nat.reduceAdd, Nat.zero_add, not_false_eq_true, not_true_eq_false, pt]; rfl)), q1, c, _, _, _, _, V3, P3, A3, X3, by omega, .inr ⟨hne, rfl, hres⟩⟩ ?_
          clear t0 t2 t3 X3 V3 P3 A3
          rintro n' tm hh' ⟨t0, t2, t3, t5, q, c', i2, g2, o2, e2, V4, P4, A4, X4, z4, hcs⟩
          have H4 := Ch.wf X4.C
          obtain ⟨v6, h6, e6, X6⟩ := X4.push hr (ReR.weak (fun b e => .inl e) _ _ P4) (by omega)
          rcases hcs with ⟨rfl, rfl, hi12, hi2, rfl, hok, m2, hm2, hI⟩ | ⟨hne2, rfl, hI⟩
          · have d0 : decide ((0 : Int) = 0) = true := rfl
            obtain ⟨m2, rfl⟩ : ∃ q, m2 = q + 1 := ⟨m2 - 1, by omega⟩
            simp only [repsM] at hI
            have LK := V4.k0
            rw [P4.kind] at LK
            by_cases c4 : q.kind = 4
            · have d4 : decide (¬ q.kind = 4) = false := by simp [c4]
              rw [if_pos c4] at hI
              simp only [wk, wt, wl, ↓reduceIte, Nat.reduceEqDiff, Nat.reduceAdd, Nat.zero_add, not_false_eq_true, not_true_eq_false, t0, t2, t3, t5, pt, X4.R.l4, d0, LK, d4, V4.re, bsRe (h := hh') P4.one1.1 P4.one1.2, e6]
              exact ⟨P.length - i2 + 1, by omega, v6, _, _, i2, g2, _, 0, rfl, X6, by simp; omega, .inl ⟨rfl, rfl, hi2, rfl, hok, m, by omega, hI⟩⟩
            have d4 : decide (¬ q.kind = 4) = true := by simp [c4]
            rw [if_neg c4] at hI
            have goon : repM q (P.drop i2) ≠ .ok none → ∃ res2 : Except Int (Option (Pat × List Int)), res2 = repM q (P.drop i2) := fun _ => ⟨_, rfl⟩
            simp only [wk, wt, wl, ↓reduceIte, Nat.reduceEqDiff, Nat.reduceAdd, Nat.zero_add, not_false_eq_true, not_true_eq_false, t0, t2, t3, t5, pt, X4.R.l4, d0, LK, d4, X4.R.l1]
            refine (is_ok X4.R (show i2 ≤ 20000000 by omega) (str1 (a := 42))).use_pure ?_
            cases s1 : isM [42] (P.drop i2) with
            | true =>
              have s1' : isM [((42 : UInt8).toNat : Int)] (P.drop i2) = true := s1
              have hns : repM q (P.drop i2) ≠ .ok none := rep_some (.inl s1)
              simp only [wk, wt, wl, ↓reduceIte, Nat.reduceEqDiff, Nat.reduceAdd, Nat.zero_add, not_false_eq_true, not_true_eq_false, s1', t0, t2, t3, t5, pt, V4.re]
              have nD : ∀ b, LtV (h.size + 1) h2.size b → b < hh'.size := fun b e => by rcases e with e | e <;> omega
              refine (repeatQ_ok X4.R hPl P4 nD (.inl (by omega)) hns).use ?_
              rintro _ h5 ⟨q5, c5, rfl, P5, C5, hc5⟩
              have V45 := Ch.var H4 C5 V4 (by omega)
              obtain ⟨h7, e7, V7, C7, z7⟩ := V45.put (Ch.wf C5) (d := c5) P5.one1.1 P5.one1.2
              have C57 : Ch (fun b => b = rb ∨ b = h2.size) hh' h7 := (C5.mono fun b e => .inl e).then C7 fun b e => .inr (.inr e)
              have nD2 : ∀ b, (b = rb ∨ b = h2.size) → LtV (h.size + 1) h2.size b := fun b e => e.elim (fun e => .inl (by omega)) .inr
              have P7 : ReR h7 (LtV (h.size + 1) h2.size) q5 c5 := ReR.ch C7 (fun b e => .inr e) _ _ P5
              have A7 := RePs.ch C57 nD2 acc cs A4
              have X7 : ∀ {j : Nat} {g' o' e' : Int}, QD h5 rb pv P j g' o' e' → PieQ h h7 rb pv P v acc cs j g' o' e' := fun Q => ⟨Ch.var H4 C57 X4.V (fun e => by rcases e with e | e <;> omega), Ch.own C57 X4.O (fun b e f => by
                have h1 := hvt b e
                have h2 := X.hv b e
                rcases f with f | f <;> omega), RePs.weak (fun b e => .inl e) acc cs A7, X4.hv, Q.ch (Ch.wf C5) C7 (fun b e => by omega), X4.C.then C57 fun b e => e.elim .inr (fun e => .inl (by omega)), Nat.le_trans X4.z (Ch.le C57)⟩
              rcases hc5 with ⟨j, hr5, hj, Q5⟩ | ⟨e, j, hr5, hne5, Q5⟩
              · rw [hr5] at hI
                have hlu := repM_len hr5
                rw [List.length_drop, List.length_drop] at hlu
                simp only [wk, wt, wl, ↓reduceIte, Nat.reduceEqDiff, Nat.reduceAdd, Nat.zero_add, not_false_eq_true, not_true_eq_false, t0, t2, t3, t5, pt, e7]
                exact ⟨P.length - j + 1, by omega, q5, c5, j, g2, _, 0, V7, P7, A7, X7 Q5, by have := Ch.le C57; omega, .inl ⟨rfl, rfl, by omega, hj, rfl, hok.sb (repM_sb hr5) (by rw [List.length_drop, List.length_drop]; omega) (Int.le_refl _), m2, by omega, hI⟩⟩
              · rw [hr5] at hI
                simp only [wk, wt, wl, ↓reduceIte, Nat.reduceEqDiff, Nat.reduceAdd, Nat.zero_add, not_false_eq_true, not_true_eq_false, t0, t2, t3, t5, pt, e7]
                exact ⟨0, by omega, q5, c5, j, g2, _, e, V7, P7, A7, X7 Q5, by have := Ch.le C57; omega, .inr ⟨hne5, rfl, hI⟩⟩
            | false =>
              have s1' : isM [((42 : UInt8).toNat : Int)] (P.drop i2) = false := s1
              simp only [wk, wt, wl, ↓reduceIte, Nat.reduceEqDiff, Nat.reduceAdd, Nat.zero_add, not_false_eq_true, not_true_eq_false, s1', t0, t2, t3, t5, pt, X4.R.l1]
              refine (is_ok X4.R (show i2 ≤ 20000000 by omega) (str2 (a := 92) (c := 123))).use_pure ?_
              cases s2 : isM [92, 123] (P.drop i2) with
              | true =>
                have s2' : isM [((92 : UInt8).toNat : Int), ((123 : UInt8).toNat : Int)] (P.drop i2) = true := s2
                have hns : repM q (P.drop i2) ≠ .ok none := rep_some (.inr s2)
                simp only [wk, wt, wl, ↓reduceIte, Nat.reduceEqDiff, Nat.reduceAdd, Nat.zero_add, not_false_eq_true, not_true_eq_false, s2', t0, t2, t3, t5, pt, V4.re]
                have nD : ∀ b, LtV (h.size + 1) h2.size b → b < hh'.size := fun b e => by rcases e with e | e <;> omega
                refine (repeatQ_ok X4.R hPl P4 nD (.inl (by omega)) hns).use ?_
                rintro _ h5 ⟨q5, c5, rfl, P5, C5, hc5⟩
                have V45 := Ch.var H4 C5 V4 (by omega)
                obtain ⟨h7, e7, V7, C7, z7⟩ := V45.put (Ch.wf C5) (d := c5) P5.one1.1 P5.one1.2
                have C57 : Ch (fun b => b = rb ∨ b = h2.size) hh' h7 := (C5.mono fun b e => .inl e).then C7 fun b e => .inr (.inr e)
                have nD2 : ∀ b, (b = rb ∨ b = h2.size) → LtV (h.size + 1) h2.size b := fun b e => e.elim (fun e => .inl (by omega)) .inr
                have P7 : ReR h7 (LtV (h.size + 1) h2.size) q5 c5 := ReR.ch C7 (fun b e => .inr e) _ _ P5
                have A7 := RePs.ch C57 nD2 acc cs A4
                have X7 : ∀ {j : Nat} {g' o' e' : Int}, QD h5 rb pv P j g' o' e' → PieQ h h7 rb pv P v acc cs j g' o' e' := fun Q => ⟨Ch.var H4 C57 X4.V (fun e => by rcases e with e | e <;> omega), Ch.own C57 X4.O (fun b e f => by
                  have h1 := hvt b e
                  have h2 := X.hv b e
                  rcases f with f | f <;> omega), RePs.weak (fun b e => .inl e) acc cs A7, X4.hv, Q.ch (Ch.wf C5) C7 (fun b e => by omega), X4.C.then C57 fun b e => e.elim .inr (fun e => .inl (by omega)), Nat.le_trans X4.z (Ch.le C57)⟩
                rcases hc5 with ⟨j, hr5, hj, Q5⟩ | ⟨e, j, hr5, hne5, Q5⟩
                · rw [hr5] at hI
                  have hlu := repM_len hr5
                  rw [List.length_drop, List.length_drop] at hlu
                  simp only [wk, wt, wl, ↓reduceIte, Nat.reduceEqDiff, Nat.reduceAdd, Nat.zero_add, not_false_eq_true, not_true_eq_false, t0, t2, t3, t5, pt, e7]
                  exact ⟨P.length - j + 1, by omega, q5, c5, j, g2, _, 0, V7, P7, A7, X7 Q5, by have := Ch.le C57; omega, .inl ⟨rfl, rfl, by omega, hj, rfl, hok.sb (repM_sb hr5) (by rw [List.length_drop, List.length_drop]; omega) (Int.le_refl _), m2, by omega, hI⟩⟩
                · rw [hr5] at hI
                  simp only [wk, wt, wl, ↓reduceIte, Nat.reduceEqDiff, Nat.reduceAdd, Nat.zero_add, not_false_eq_true, not_true_eq_false, t0, t2, t3, t5, pt, e7]
                  exact ⟨0, by omega, q5, c5, j, g2, _, e, V7, P7, A7, X7 Q5, by have := Ch.le C57; omega, .inr ⟨hne5, rfl, hI⟩⟩
              | false =>
                have s2' : isM [((92 : UInt8).toNat : Int), ((123 : UInt8).toNat : Int)] (P.drop i2) = false := s2
                rw [rep_none s1 s2] at hI
                simp only [wk, wt, wl, ↓reduceIte, Nat.reduceEqDiff, Nat.reduceAdd, Nat.zero_add, not_false_eq_true, not_true_eq_false, s2', t0, t2, t3, t5, pt, V4.re, bsRe (h := hh') P4.one1.1 P4.one1.2, e6]
                exact ⟨P.length - i2 + 1, by omega, v6, _, _, i2, g2, _, 0, rfl, X6, by simp; omega, .inl ⟨rfl, rfl, hi2, rfl, hok, m, by omega, hI⟩⟩
          · have d0 : decide (e2 = 0) = false := decide_eq_false hne2
            simp only [wk, wt, wl, ↓reduceIte, Nat.reduceEqDiff, Nat.reduceAdd, Nat.zero_add, not_false_eq_true, not_true_eq_false, t0, t2, t3, t5, pt, X4.R.l4, d0, V4.re, bsRe (h := hh') P4.one1.1 P4.one1.2, e6]
            exact ⟨0, by omega, v6, _, _, i2, g2, o2, e2, rfl, X6, by simp; omega, .inr ⟨hne2, rfl, hI⟩⟩
  · have d0 : decide (e1 = 0) = false := decide_eq_false hne1
    simp only [wk, wt, wl, ↓reduceIte, Nat.reduceEqDiff, Nat.reduceAdd, Nat.zero_add, not_false_eq_true, not_true_eq_false, t0, t2, t3, pt, X.R.l4, d0]
    have hAv := Rd.one X.O.1
    have R9c : ∀ {q : Pat} {c : RC} {h9 : Heap}, pCat acc = q → ReR h9 (Lt h.size) q c → Ch (Bx rb) h h9 → QD h9 rb pv P i1 g1 o1 e1 → ∃ q' c', reV c = reV c' ∧ ReR h9 (Lt h.size) q' c' ∧ Ch (Bx rb) h h9 ∧ ((∃ (k' : Nat) (g' : Int), res = .ok (q', P.drop k', g') ∧ k' ≤ P.length ∧ QD h9 rb pv P k' g' (16 - (k : Int)) 0) ∨ (∃ (e : Int) (k' : Nat) (g' o' : Int), res = .error e ∧ e ≠ 0 ∧ QD h9 rb pv P k' g' o' e)) := (fun {q c h9} e Pq Cq Rq => ⟨q, c, rfl, Pq, Cq, .inr ⟨e1, i1, g1, o1, hR, hne1, Rq⟩⟩)
    have LNv := X.O.1.len underlying24
    rcases acc with _ | ⟨p1, _ | ⟨p2, acc⟩⟩
    · have d1 : decide ((cs.length : Int) = 0) = true := by rw [hcl]; rfl
      obtain ⟨h9, e9, l9, P9, R9, C9⟩ := fin_q (h0 := h) (D := Lt (h.size + 1)) (p := pE) (d := rc0) Hh X.V ReR.e (Nat.lt_succ_self _) X.R X.C (Nat.le_refl _) hr
      simp only [wk, wt, wl, ↓reduceIte, Nat.reduceEqDiff, Nat.reduceAdd, Nat.zero_add, not_false_eq_true, not_true_eq_false, t0, t2, t3, pt, pt, LNv, d1, build_re0, e9, l9]
      exact R9c rfl ReR.e C9 R9
    · have d1 : decide ((cs.length : Int) = 0) = false := by rw [hcl]; rfl
      have d2 : decide ((cs.length : Int) = 1) = true := by rw [hcl]; rfl
      obtain ⟨c1, hc1, P1⟩ := X.A.at (i := 0) rfl
      have IX' : aindexAddr prog 24 v (.int .i64 0) = some (.pointer (some (eltA v 7 0))) := Rd.index X.O.1 underlying24 asz26 (q := .i64) (i := 0) (by omega) (by rw [hcl]; simp)
      have LX : aload prog hh 26 (eltA v 7 0) = some (reV c1) := RS.agg X.O.1 reC_len underlying26 rfl asz26 hc1
      obtain ⟨h9, e9, l9, P9, R9, C9⟩ := fin_q (h0 := h) (d := c1) Hh X.V P1 (Nat.lt_succ_self _) X.R X.C (Nat.le_refl _) hr
      simp only [wk, wt, wl, ↓reduceIte, Nat.reduceEqDiff, Nat.reduceAdd, Nat.zero_add, not_false_eq_true, not_true_eq_false, t0, t2, t3, pt, pt, LNv, d1, d2, IX', LX, e9, l9]
      exact R9c rfl (ReR.weak (fun b e => by show b < _; have : b < h.size := e; omega) _ _ P9) C9 R9
    · have d1 : decide ((cs.length : Int) = 0) = false := by rw [hcl]; simp; omega
      have d2 : decide ((cs.length : Int) = 1) = false := by rw [hcl]; simp; omega
      have PP : ReR hh (Lt (h.size + 1)) (.mk 8 0 [] false 0 0 (p1 :: p2 :: acc)) { rc0 with k := 8, pv := v } := ReR.ps X.O.1 (fun b e f => by have := X.hv b e; have : b < h.size + 1 := f; omega) X.A
      obtain ⟨h9, e9, l9, P9, R9, C9⟩ := fin_q (h0 := h) (d := { rc0 with k := 8, pv := v }) Hh X.V PP (Nat.lt_succ_self _) X.R X.C (Nat.le_refl _) hr
      simp only [wk, wt, wl, ↓reduceIte, Nat.reduceEqDiff, Nat.reduceAdd, Nat.zero_add, not_false_eq_true, not_true_eq_false, t0, t2, t3, pt, pt, LNv, d1, d2, build_rep hAv, e9, l9]
      exact R9c rfl (ReR.weak (fun b e => by show b < _; have : b < h.size := e; omega) _ _ P9) C9 R9
end Go.Proofs.Ytnnkcbkenofhmaa.Am
end
section
/- Patterns, the document's reader: contracts of alternatives, Parse, by walks. -/
set_option linter.unusedSimpArgs false
set_option linter.unusedVariables false
set_option maxHeartbeats 4000000
set_option maxRecDepth 20000
namespace Go.Proofs.Ytnnkcbkenofhmaa.Am
open Go Go.RowKit Go.Proofs.Try
theorem altsQ_step {k : Nat} (hk : k ≤ 16) (G : ∀ j, k = j + 1 → AltD j) : AltD k := by
  intro h rb pv P i g R hi hP O
  unfold DC
  refine acalls_of_W' func23 rfl (by kernel_rfl) (by kernel_rfl) (by simp [ntmps23]) ?_
  intro H
  have hr := R.lt H
  have hPl := hP.1
  have N1 := Keeps.new H 26 (reC rc0)
  have V1 := Var.new (e := 26) H (cs := reC rc0)
  have R1 := R.keeps H N1
  have C1 : Ch (Bx rb) h (h.new 26 (reC rc0)) := N1.mono fun _ e => e.elim
  have hz1 : (h.new 26 (reC rc0)).size = h.size + 1 := rfl
  have hres : ∃ res, altM (grpM k) (P.drop i) g = res ∧ res = (match pieM (grpM k) ((P.drop i).length + 1) [] (P.drop i) g with
    | .error e => .error e
    | .ok (p, t, g') => altsM (grpM k) (t.length + 1) [p] t g') := ⟨_, rfl, rfl⟩
  obtain ⟨res, hr0, hres⟩ := hres
  rw [hr0]
  simp only [wk, wt, wl, ↓reduceIte, Nat.reduceEqDiff, Nat.reduceAdd, Nat.zero_add, not_false_eq_true, not_true_eq_false, pt, newRe, newSz]
  refine (piecesQ_ok hk G R1 hi hP O).use ?_
  rintro _ h2 ⟨q1, c, rfl, P2, C2, hc2⟩
  rcases hc2 with ⟨j, g', hp, hj, Q2⟩ | ⟨e, j, g', o', hp, hne, Q2⟩
  · rw [hp] at hres
    simp only at hres
    have hl1 := (pieM_len (grpM_GL k) _ hp).1
    have B2 : Okl (P.drop j) g' := O.sb (pieM_sb (grpM_GS k) _ hp) hl1.2.1 hl1.2.2
    have hz2 := Ch.le C2
    rw [hz1] at hz2
    have N3 := Keeps.new (Ch.wf C2) 26 (reC c)
    have O3 : OS prog (h.size + 1) (h2.new 26 (reC c)) 7 reC (.slice (some ⟨h2.size, 0, none⟩) 1 2) [c] := Own.new (Ch.wf C2) hz2 asz26 rfl
    have X3 := PieQ.mk (h := h) (Keeps.var (Ch.wf C2) N3 (Ch.var (Ch.wf N1) C2 V1 (by omega))) O3 (RePs.one (ReR.ch N3 (fun _ e => e.elim) q1 c P2)) (fun b e => by
      have e2 : h2.size = b := by cases e; rfl
      omega) (Q2.keeps (Ch.wf C2) N3) ((C1.then C2 fun b e => .inr e).then N3 fun _ e => e.elim) (by show h.size + 1 ≤ h2.size + 1; omega)
    simp only [wk, wt, wl, ↓reduceIte, Nat.reduceEqDiff, Nat.reduceAdd, Nat.zero_add, not_false_eq_true, not_true_eq_false, pt, bsRe (h := h2) P2.one1.1 P2.one1.2]
    refine W_loopI (fun n tm hh => tm 0 = pt rb ∧ tm 2 = pt h.size ∧ ∃ (v : Value) (acc : List Pat) (cs : List RC) (i1 : Nat) (g1 o1 e1 : Int), tm 3 = v ∧ PieQ h hh rb pv P v acc cs i1 g1 o1 e1 ∧ acc.length + n ≤ P.length + 2 ∧ 1 ≤ acc.length ∧
        ((e1 = 0 ∧ o1 = 16 - (k : Int) ∧ i1 ≤ P.length ∧ n = P.length - i1 + 1 ∧ Okl (P.drop i1) g1 ∧ ∃ m : Nat, n ≤ m ∧ res = altsM (grpM k) m acc (P.drop i1) g1) ∨ (e1 ≠ 0 ∧ n = 0 ∧ res = .error e1)))
      ⟨_, (by first | rfl | (simp only [wk, wt, wl, ↓reduceIte, Nat.reduceEqDiff, Nat.reduceAdd, Nat.zero_add, not_false_eq_true, not_true_eq_false]; done) | (simp only [wk, wt, wl, ↓reduceIte, Nat.reduceEqDiff, Nat.reduceAdd, Nat.zero_add, not_false_eq_true, not_true_eq_false]; rfl) | (simp only [wk, wt, wl, ↓reduceIte, Nat.reduceEqDiff, Nat.reduceAdd, Nat.zero_add, not_false_eq_true, not_true_eq_false, pt]; done) | (simp only [wk, wt, wl, ↓reduceIte, Nat.reduceEqDiff, Nat.reduceAdd, Nat.zero_add, not_false_eq_true, not_true_eq_false, pt]; rfl)), (by first | rfl | (simp only [wk, wt, wl, ↓reduceIte, Nat.reduceEqDiff, Nat.reduceAdd, Nat.zero_add, not_false_eq_true, not_true_eq_false]; done) | (simp only [wk, wt, wl, ↓reduceIte, Nat.reduceEqDiff, Nat.reduceAdd, Nat.zero_add, not_false_eq_true, not_true_eq_false]; rfl) | (simp only [wk, wt, wl, ↓reduceIte, Nat.reduceEqDiff, Nat.reduceAdd, Nat.zero_add, not_false_eq_true, not_true_eq_false, pt]; done) | (simp only [wk, wt, wl, ↓reduceIte, Nat.reduceEqDiff, Nat.reduceAdd, Nat.zero_add, not_false_eq_true, not_true_eq_false, pt]; rfl)), _, [q1], [c], _, _, _, _, (by first | rfl | (simp only [wk, wt, wl, ↓reduceIte, Nat.reduceEqDiff, Nat.reduceAdd, Nat.zero_add, not_false_eq_true, not_true_eq_false]; done) | (simp only [wk, wt, wl, ↓reduceIte, Nat.reduceEqDiff, Nat.reduceAdd, Nat.zero_add, not_false_eq_true, not_true_eq_false]; rfl)), X3, by rw [List.length_singleton]; omega, by simp, .inl ⟨rfl, rfl, hj, rfl, B2, (P.drop j).length + 1, by rw [List.length_drop]; exact Nat.le_refl _, hres⟩⟩ ?_
    clear X3 O3 N3
    rintro n tm hh ⟨t0, t2, v, acc, cs, i1, g1, o1, e1, t3, X, hac, ha1, hcs⟩
    have Hh := Ch.wf X.C
    have hcl := X.A.len
    rcases hcs with ⟨rfl, rfl, hi1, rfl, hok, m, hm, hR⟩ | ⟨hne1, rfl, hR⟩
    · have d0 : decide ((0 : Int) = 0) = true := rfl
      obtain ⟨m, rfl⟩ : ∃ q, m = q + 1 := ⟨m - 1, by omega⟩
      simp only [altsM] at hR
      simp only [wk, wt, wl, ↓reduceIte, Nat.reduceEqDiff, Nat.reduceAdd, Nat.zero_add, not_false_eq_true, not_true_eq_false, t0, t2, t3, pt, X.R.l4, d0, X.R.l1]
      refine (is_ok X.R (show i1 ≤ 20000000 by omega) (str2 (a := 92) (c := 124))).use_pure ?_
      cases hb : barM (P.drop i1) with
      | false =>
        have hb' : isM [((92 : UInt8).toNat : Int), ((124 : UInt8).toNat : Int)] (P.drop i1) = false := isM_bar.trans hb
        rw [hb, if_neg (by decide)] at hR
        simp only [wk, wt, wl, ↓reduceIte, Nat.reduceEqDiff, Nat.reduceAdd, Nat.zero_add, not_false_eq_true, not_true_eq_false, hb', t0, t2, t3, pt]
        have R9c : ∀ {q : Pat} {c : RC} {h9 : Heap}, pAlt acc = q → ReR h9 (Lt h.size) q c → Ch (Bx rb) h h9 → QD h9 rb pv P i1 g1 (16 - (k : Int)) 0 → ∃ q' c', reV c = reV c' ∧ ReR h9 (Lt h.size) q' c' ∧ Ch (Bx rb) h h9 ∧ ((∃ (k' : Nat) (g' : Int), res = .ok (q', P.drop k', g') ∧ k' ≤ P.length ∧ QD h9 rb pv P k' g' (16 - (k : Int)) 0) ∨ (∃ (e : Int) (k' : Nat) (g' o' : Int), res = .error e ∧ e ≠ 0 ∧ QD h9 rb pv P k' g' o' e)) := (fun {q c h9} e Pq Cq Rq => ⟨q, c, rfl, Pq, Cq, .inl ⟨i1, g1, by rw [hR, e], hi1, Rq⟩⟩)
        have LNv := X.O.1.len underlying24
        rcases acc with _ | ⟨p1, _ | ⟨p2, acc⟩⟩
        · simp at ha1
        · have d2 : decide ((cs.length : Int) = 1) = true := by rw [hcl]; rfl
          obtain ⟨c1, hc1, P1⟩ := X.A.at (i := 0) rfl
          have IX' : aindexAddr prog 24 v (.int .i64 0) = some (.pointer (some (eltA v 7 0))) := Rd.index X.O.1 underlying24 asz26 (q := .i64) (i := 0) (by omega) (by rw [hcl]; simp)
          have LX : aload prog hh 26 (eltA v 7 0) = some (reV c1) := RS.agg X.O.1 reC_len underlying26 rfl asz26 hc1
          obtain ⟨h9, e9, l9, P9, R9, C9⟩ := fin_q (h0 := h) (d := c1) Hh X.V P1 (Nat.lt_succ_self _) X.R X.C (Nat.le_refl _) hr
          simp only [wk, wt, wl, ↓reduceIte, Nat.reduceEqDiff, Nat.reduceAdd, Nat.zero_add, not_false_eq_true, not_true_eq_false, t0, t2, t3, pt, pt, LNv, d2, IX', LX, e9, l9]
          exact R9c rfl (ReR.weak (fun b e => by show b < _; have : b < h.size := e; omega) _ _ P9) C9 R9
        · have d2 : decide ((cs.length : Int) = 1) = false := by rw [hcl]; simp; omega
          have PP : ReR hh (Lt (h.size + 1)) (.mk 9 0 [] false 0 0 (p1 :: p2 :: acc)) { rc0 with k := 9, pv := v } := ReR.ps X.O.1 (fun b e f => by have := X.hv b e; have : b < h.size + 1 := f; omega) X.A
          obtain ⟨h9, e9, l9, P9, R9, C9⟩ := fin_q (h0 := h) (d := { rc0 with k := 9, pv := v }) Hh X.V PP (Nat.lt_succ_self _) X.R X.C (Nat.le_refl _) hr
          simp only [wk, wt, wl, ↓reduceIte, Nat.reduceEqDiff, Nat.reduceAdd, Nat.zero_add, not_false_eq_true, not_true_eq_false, t0, t2, t3, pt, pt, LNv, d2, build_rep (Rd.one X.O.1), e9, l9]
          exact R9c rfl (ReR.weak (fun b e => by show b < _; have : b < h.size := e; omega) _ _ P9) C9 R9
      | true =>
        have hb' : isM [((92 : UInt8).toNat : Int), ((124 : UInt8).toNat : Int)] (P.drop i1) = true := isM_bar.trans hb
        rw [hb, if_pos rfl, List.drop_drop] at hR
        have hlt := bar_lt hb
        rw [List.length_drop] at hlt
        have w2 : IntKind.i64.wrap ((i1 : Int) + 2) = ((i1 + 2 : Nat) : Int) := by rw [IntWalk.i64_in _ (by omega)]; omega
        obtain ⟨h4, e4, R4, C4, z4⟩ := X.R.setK Hh (i1 + 2)
        have X4 := X.ch C4 (fun b e => .inl e) hr R4
        have B4 : Okl (P.drop (i1 + 2)) g1 := ⟨by have := hok.1; rw [List.length_drop] at *; omega, hok.2.1, fun x hx => hP.2 x (List.mem_of_mem_drop hx)⟩
        simp only [wk, wt, wl, ↓reduceIte, Nat.reduceEqDiff, Nat.reduceAdd, Nat.zero_add, not_false_eq_true, not_true_eq_false, hb', t0, t2, t3, pt, X.R.l1, w2, e4]
        refine (piecesQ_ok hk G R4 (by omega) hP B4).use ?_
        rintro _ h5 ⟨q5, c5, rfl, P5, C5, hc5⟩
        have hz := X.z
        rcases hc5 with ⟨j, g', hp5, hj, Q5⟩ | ⟨e, j, g', o', hp5, hne5, Q5⟩
        · rw [hp5] at hR
          simp only at hR
          have hl5 := (pieM_len (grpM_GL k) _ hp5).1
          have B5 : Okl (P.drop j) g' := B4.sb (pieM_sb (grpM_GS k) _ hp5) hl5.2.1 hl5.2.2
          rw [List.length_drop, List.length_drop] at hl5
          have X5 := X4.ch C5 (fun b e => .inl e) hr Q5
          obtain ⟨v6, h6, e6, X6⟩ := X5.push hr (ReR.weak (fun b e => by show b < _; have e' : b < h.size + 1 := e; omega) q5 c5 P5) (by omega)
          simp only [wk, wt, wl, ↓reduceIte, Nat.reduceEqDiff, Nat.reduceAdd, Nat.zero_add, not_false_eq_true, not_true_eq_false, t0, t2, t3, pt, bsRe (h := h5) P5.one1.1 P5.one1.2, e6]
          exact ⟨P.length - j + 1, by omega, v6, _, _, j, g', _, 0, rfl, X6, by rw [List.length_append, List.length_singleton]; omega, by simp, .inl ⟨rfl, rfl, hj, rfl, B5, m, by omega, hR⟩⟩
        · rw [hp5] at hR
          simp only at hR
          have X5 := X4.ch C5 (fun b e => .inl e) hr Q5
          obtain ⟨v6, h6, e6, X6⟩ := X5.push hr (ReR.weak (fun b e => by show b < _; have e' : b < h.size + 1 := e; omega) q5 c5 P5) (by omega)
          simp only [wk, wt, wl, ↓reduceIte, Nat.reduceEqDiff, Nat.reduceAdd, Nat.zero_add, not_false_eq_true, not_true_eq_false, t0, t2, t3, pt, bsRe (h := h5) P5.one1.1 P5.one1.2, e6]
          exact ⟨0, by omega, v6, _, _, j, g', o', e, rfl, X6, by rw [List.length_append, List.length_singleton]; omega, by simp, .inr ⟨hne5, rfl, hR⟩⟩
    · have d0 : decide (e1 = 0) = false := decide_eq_false hne1
      simp only [wk, wt, wl, ↓reduceIte, Nat.reduceEqDiff, Nat.reduceAdd, Nat.zero_add, not_false_eq_true, not_true_eq_false, t0, t2, t3, pt, X.R.l4, d0]
      have R9c : ∀ {q : Pat} {c : RC} {h9 : Heap}, pAlt acc = q → ReR h9 (Lt h.size) q c → Ch (Bx rb) h h9 → QD h9 rb pv P i1 g1 o1 e1 → ∃ q' c', reV c = reV c' ∧ ReR h9 (Lt h.size) q' c' ∧ Ch (Bx rb) h h9 ∧ ((∃ (k' : Nat) (g' : Int), res = .ok (q', P.drop k', g') ∧ k' ≤ P.length ∧ QD h9 rb pv P k' g' (16 - (k : Int)) 0) ∨ (∃ (e : Int) (k' : Nat) (g' o' : Int), res = .error e ∧ e ≠ 0 ∧ QD h9 rb pv P k' g' o' e)) := (fun {q c h9} e Pq Cq Rq => ⟨q, c, rfl, Pq, Cq, .inr ⟨e1, i1, g1, o1, hR, hne1, Rq⟩⟩)
      have LNv := X.O.1.len underlying24
      rcases acc with _ | ⟨p1, _ | ⟨p2, acc⟩⟩
      · simp at ha1
      · have d2 : decide ((cs.length : Int) = 1) = true := by rw [hcl]; rfl
        obtain ⟨c1, hc1, P1⟩ := X.A.at (i := 0) rfl
        have IX' : aindexAddr prog 24 v (.int .i64 0) = some (.pointer (some (eltA v 7 0))) := Rd.index X.O.1 underlying24 asz26 (q := .i64) (i := 0) (by omega) (by rw [hcl]; simp)
        have LX : aload prog hh 26 (eltA v 7 0) = some (reV c1) := RS.agg X.O.1 reC_len underlying26 rfl asz26 hc1
        obtain ⟨h9, e9, l9, P9, R9, C9⟩ := fin_q (h0 := h) (d := c1) Hh X.V P1 (Nat.lt_succ_self _) X.R X.C (Nat.le_refl _) hr
        simp only [wk, wt, wl, ↓reduceIte, Nat.reduceEqDiff, Nat.reduceAdd, Nat.zero_add, not_false_eq_true, not_true_eq_false, t0, t2, t3, pt, pt, LNv, d2, IX', LX, e9, l9]
        exact R9c rfl (ReR.weak (fun b e => by show b < _; have : b < h.size := e; omega) _ _ P9) C9 R9
      · have d2 : decide ((cs.length : Int) = 1) = false := by rw [hcl]; simp; omega
        have PP : ReR hh (Lt (h.size + 1)) (.mk 9 0 [] false 0 0 (p1 :: p2 :: acc)) { rc0 with k := 9, pv := v } := ReR.ps X.O.1 (fun b e f => by have := X.hv b e; have : b < h.size + 1 := f; omega) X.A
        obtain ⟨h9, e9, l9, P9, R9, C9⟩ := fin_q (h0 := h) (d := { rc0 with k := 9, pv := v }) Hh X.V PP (Nat.lt_succ_self _) X.R X.C (Nat.le_refl _) hr
        simp only [wk, wt, wl, ↓reduceIte, Nat.reduceEqDiff, Nat.reduceAdd, Nat.zero_add, not_false_eq_true, not_true_eq_false, t0, t2, t3, pt, pt, LNv, d2, build_rep (Rd.one X.O.1), e9, l9]
        exact R9c rfl (ReR.weak (fun b e => by show b < _; have : b < h.size := e; omega) _ _ P9) C9 R9
  · rw [hp] at hres
    simp only at hres
    have hz2 := Ch.le C2
    rw [hz1] at hz2
    have N3 := Keeps.new (Ch.wf C2) 26 (reC c)
    have O3 : OS prog (h.size + 1) (h2.new 26 (reC c)) 7 reC (.slice (some ⟨h2.size, 0, none⟩) 1 2) [c] := Own.new (Ch.wf C2) hz2 asz26 rfl
    have X3 := PieQ.mk (h := h) (Keeps.var (Ch.wf C2) N3 (Ch.var (Ch.wf N1) C2 V1 (by omega))) O3 (RePs.one (ReR.ch N3 (fun _ e => e.elim) q1 c P2)) (fun b e => by
      have e2 : h2.size = b := by cases e; rfl
      omega) (Q2.keeps (Ch.wf C2) N3) ((C1.then C2 fun b e => .inr e).then N3 fun _ e => e.elim) (by show h.size + 1 ≤ h2.size + 1; omega)
    simp only [wk, wt, wl, ↓reduceIte, Nat.reduceEqDiff, Nat.reduceAdd, Nat.zero_add, not_false_eq_true, not_true_eq_false, pt, bsRe (h := h2) P2.one1.1 P2.one1.2]
    refine W_loopI (fun n tm hh => tm 0 = pt rb ∧ tm 2 = pt h.size ∧ ∃ (v : Value) (acc : List Pat) (cs : List RC) (i1 : Nat) (g1 o1 e1 : Int), tm 3 = v ∧ PieQ h hh rb pv P v acc cs i1 g1 o1 e1 ∧ acc.length + n ≤ P.length + 2 ∧ 1 ≤ acc.length ∧
        ((e1 = 0 ∧ o1 = 16 - (k : Int) ∧ i1 ≤ P.length ∧ n = P.length - i1 + 1 ∧ Okl (P.drop i1) g1 ∧ ∃ m : Nat, n ≤ m ∧ res = altsM (grpM k) m acc (P.drop i1) g1) ∨ (e1 ≠ 0 ∧ n = 0 ∧ res = .error e1)))
      ⟨_, (by first | rfl | (simp only [wk, wt, wl, ↓reduceIte, Nat.reduceEqDiff, Nat.reduceAdd, Nat.zero_add, not_false_eq_true, not_true_eq_false]; done) | (simp only [wk, wt, wl, ↓reduceIte, Nat.reduceEqDiff, Nat.reduceAdd, Nat.zero_add, not_false_eq_true, not_true_eq_false]; rfl) | (simp only [wk, wt, wl, ↓reduceIte, Nat.reduceEqDiff, Nat.reduceAdd, Nat.zero_add, not_false_eq_true, not_true_eq_false, pt]; done) | (simp only [wk, wt, wl, ↓reduceIte, Nat.reduceEqDiff, Nat.reduceAdd, Nat.zero_add, not_false_eq_true, not_true_eq_false, pt]; rfl)), (by first | rfl | (simp only [wk, wt, wl, ↓reduceIte, Nat.reduceEqDiff, Nat.reduceAdd, Nat.zero_add, not_false_eq_true, not_true_eq_false]; done) | (simp only [wk, wt, wl, ↓reduceIte, Nat.reduceEqDiff, Nat.reduceAdd, Nat.zero_add, not_false_eq_true, not_true_eq_false]; rfl) | (simp only [wk, wt, wl, ↓reduceIte, Nat.reduceEqDiff, Nat.reduceAdd, Nat.zero_add, not_false_eq_true, not_true_eq_false, pt]; done) | (simp only [wk, wt, wl, ↓reduceIte, Nat.reduceEqDiff, Nat.reduceAdd, Nat.zero_add, not_false_eq_true, not_true_eq_false, pt]; rfl)), _, [q1], [c], _, _, _, _, (by first | rfl | (simp only [wk, wt, wl, ↓reduceIte, Nat.reduceEqDiff, Nat.reduceAdd, Nat.zero_add, not_false_eq_true, not_true_eq_false]; done) | (simp only [wk, wt, wl, ↓reduceIte, Nat.reduceEqDiff, Nat.reduceAdd, Nat.zero_add, not_false_eq_true, not_true_eq_false]; rfl)), X3, by rw [List.length_singleton]; omega, by simp, .inr ⟨hne, rfl, hres⟩⟩ ?_
    clear X3 O3 N3
    rintro n tm hh ⟨t0, t2, v, acc, cs, i1, g1, o1, e1, t3, X, hac, ha1, hcs⟩
    have Hh := Ch.wf X.C
    have hcl := X.A.len
    rcases hcs with ⟨rfl, rfl, hi1, rfl, hok, m, hm, hR⟩ | ⟨hne1, rfl, hR⟩
    · have d0 : decide ((0 : Int) = 0) = true := rfl
      obtain ⟨m, rfl⟩ : ∃ q, m = q + 1 := ⟨m - 1, by omega⟩
      simp only [altsM] at hR
      simp only [wk, wt, wl, ↓reduceIte, Nat.reduceEqDiff, Nat.reduceAdd, Nat.zero_add, not_false_eq_true, not_true_eq_false, t0, t2, t3, pt, X.R.l4, d0, X.R.l1]
      refine (is_ok X.R (show i1 ≤ 20000000 by omega) (str2 (a := 92) (c := 124))).use_pure ?_
      cases hb : barM (P.drop i1) with
      | false =>
        have hb' : isM [((92 : UInt8).toNat : Int), ((124 : UInt8).toNat : Int)] (P.drop i1) = false := isM_bar.trans hb
        rw [hb, if_neg (by decide)] at hR
        simp only [wk, wt, wl, ↓reduceIte, Nat.reduceEqDiff, Nat.reduceAdd, Nat.zero_add, not_false_eq_true, not_true_eq_false, hb', t0, t2, t3, pt]
        have R9c : ∀ {q : Pat} {c : RC} {h9 : Heap}, pAlt acc = q → ReR h9 (Lt h.size) q c → Ch (Bx rb) h h9 → QD h9 rb pv P i1 g1 (16 - (k : Int)) 0 → ∃ q' c', reV c = reV c' ∧ ReR h9 (Lt h.size) q' c' ∧ Ch (Bx rb) h h9 ∧ ((∃ (k' : Nat) (g' : Int), res = .ok (q', P.drop k', g') ∧ k' ≤ P.length ∧ QD h9 rb pv P k' g' (16 - (k : Int)) 0) ∨ (∃ (e : Int) (k' : Nat) (g' o' : Int), res = .error e ∧ e ≠ 0 ∧ QD h9 rb pv P k' g' o' e)) := (fun {q c h9} e Pq Cq Rq => ⟨q, c, rfl, Pq, Cq, .inl ⟨i1, g1, by rw [hR, e], hi1, Rq⟩⟩)
        have LNv := X.O.1.len underlying24
        rcases acc with _ | ⟨p1, _ | ⟨p2, acc⟩⟩
        · simp at ha1
        · have d2 : decide ((cs.length : Int) = 1) = true := by rw [hcl]; rfl
          obtain ⟨c1, hc1, P1⟩ := X.A.at (i := 0) rfl
          have IX' : aindexAddr prog 24 v (.int .i64 0) = some (.pointer (some (eltA v 7 0))) := Rd.index X.O.1 underlying24 asz26 (q := .i64) (i := 0) (by omega) (by rw [hcl]; simp)
          have LX : aload prog hh 26 (eltA v 7 0) = some (reV c1) := RS.agg X.O.1 reC_len underlying26 rfl asz26 hc1
          obtain ⟨h9, e9, l9, P9, R9, C9⟩ := fin_q (h0 := h) (d := c1) Hh X.V P1 (Nat.lt_succ_self _) X.R X.C (Nat.le_refl _) hr
          simp only [wk, wt, wl, ↓reduceIte, Nat.reduceEqDiff, Nat.reduceAdd, Nat.zero_add, not_false_eq_true, not_true_eq_false, t0, t2, t3, pt, pt, LNv, d2, IX', LX, e9, l9]
          exact R9c rfl (ReR.weak (fun b e => by show b < _; have : b < h.size := e; omega) _ _ P9) C9 R9
        · have d2 : decide ((cs.length : Int) = 1) = false := by rw [hcl]; simp; omega
          have PP : ReR hh (Lt (h.size + 1)) (.mk 9 0 [] false 0 0 (p1 :: p2 :: acc)) { rc0 with k := 9, pv := v } := ReR.ps X.O.1 (fun b e f => by have := X.hv b e; have : b < h.size + 1 := f; omega) X.A
          obtain ⟨h9, e9, l9, P9, R9, C9⟩ := fin_q (h0 := h) (d := { rc0 with k := 9, pv := v }) Hh X.V PP (Nat.lt_succ_self _) X.R X.C (Nat.le_refl _) hr
          simp only [wk, wt, wl, ↓reduceIte, Nat.reduceEqDiff, Nat.reduceAdd, Nat.zero_add, not_false_eq_true, not_true_eq_false, t0, t2, t3, pt, pt, LNv, d2, build_rep (Rd.one X.O.1), e9, l9]
          exact R9c rfl (ReR.weak (fun b e => by show b < _; have : b < h.size := e; omega) _ _ P9) C9 R9
      | true =>
        have hb' : isM [((92 : UInt8).toNat : Int), ((124 : UInt8).toNat : Int)] (P.drop i1) = true := isM_bar.trans hb
        rw [hb, if_pos rfl, List.drop_drop] at hR
        have hlt := bar_lt hb
        rw [List.length_drop] at hlt
        have w2 : IntKind.i64.wrap ((i1 : Int) + 2) = ((i1 + 2 : Nat) : Int) := by rw [IntWalk.i64_in _ (by omega)]; omega
        obtain ⟨h4, e4, R4, C4, z4⟩ := X.R.setK Hh (i1 + 2)
        have X4 := X.ch C4 (fun b e => .inl e) hr R4
        have B4 : Okl (P.drop (i1 + 2)) g1 := ⟨by have := hok.1; rw [List.length_drop] at *; omega, hok.2.1, fun x hx => hP.2 x (List.mem_of_mem_drop hx)⟩
        simp only [wk, wt, wl, ↓reduceIte, Nat.reduceEqDiff, Nat.reduceAdd, Nat.zero_add, not_false_eq_true, not_true_eq_false, hb', t0, t2, t3, pt, X.R.l1, w2, e4]
        refine (piecesQ_ok hk G R4 (by omega) hP B4).use ?_
        rintro _ h5 ⟨q5, c5, rfl, P5, C5, hc5⟩
        have hz := X.z
        rcases hc5 with ⟨j, g', hp5, hj, Q5⟩ | ⟨e, j, g', o', hp5, hne5, Q5⟩
        · rw [hp5] at hR
          simp only at hR
          have hl5 := (pieM_len (grpM_GL k) _ hp5).1
          have B5 : Okl (P.drop j) g' := B4.sb (pieM_sb (grpM_GS k) _ hp5) hl5.2.1 hl5.2.2
          rw [List.length_drop, List.length_drop] at hl5
          have X5 := X4.ch C5 (fun b e => .inl e) hr Q5
          obtain ⟨v6, h6, e6, X6⟩ := X5.push hr (ReR.weak (fun b e => by show b < _; have e' : b < h.size + 1 := e; omega) q5 c5 P5) (by omega)
          simp only [wk, wt, wl, ↓reduceIte, Nat.reduceEqDiff, Nat.reduceAdd, Nat.zero_add, not_false_eq_true, not_true_eq_false, t0, t2, t3, pt, bsRe (h := h5) P5.one1.1 P5.one1.2, e6]
          exact ⟨P.length - j + 1, by omega, v6, _, _, j, g', _, 0, rfl, X6, by rw [List.length_append, List.length_singleton]; omega, by simp, .inl ⟨rfl, rfl, hj, rfl, B5, m, by omega, hR⟩⟩
        · rw [hp5] at hR
          simp only at hR
          have X5 := X4.ch C5 (fun b e => .inl e) hr Q5
          obtain ⟨v6, h6, e6, X6⟩ := X5.push hr (ReR.weak (fun b e => by show b < _; have e' : b < h.size + 1 := e; omega) q5 c5 P5) (by omega)
          simp only [wk, wt, wl, ↓reduceIte, Nat.reduceEqDiff, Nat.reduceAdd, Nat.zero_add, not_false_eq_true, not_true_eq_false, t0, t2, t3, pt, bsRe (h := h5) P5.one1.1 P5.one1.2, e6]
          exact ⟨0, by omega, v6, _, _, j, g', o', e, rfl, X6, by rw [List.length_append, List.length_singleton]; omega, by simp, .inr ⟨hne5, rfl, hR⟩⟩
    · have d0 : decide (e1 = 0) = false := decide_eq_false hne1
      simp only [wk, wt, wl, ↓reduceIte, Nat.reduceEqDiff, Nat.reduceAdd, Nat.zero_add, not_false_eq_true, not_true_eq_false, t0, t2, t3, pt, X.R.l4, d0]
      have R9c : ∀ {q : Pat} {c : RC} {h9 : Heap}, pAlt acc = q → ReR h9 (Lt h.size) q c → Ch (Bx rb) h h9 → QD h9 rb pv P i1 g1 o1 e1 → ∃ q' c', reV c = reV c' ∧ ReR h9 (Lt h.size) q' c' ∧ Ch (Bx rb) h h9 ∧ ((∃ (k' : Nat) (g' : Int), res = .ok (q', P.drop k', g') ∧ k' ≤ P.length ∧ QD h9 rb pv P k' g' (16 - (k : Int)) 0) ∨ (∃ (e : Int) (k' : Nat) (g' o' : Int), res = .error e ∧ e ≠ 0 ∧ QD h9 rb pv P k' g' o' e)) := (fun {q c h9} e Pq Cq Rq => ⟨q, c, rfl, Pq, Cq, .inr ⟨e1, i1, g1, o1, hR, hne1, Rq⟩⟩)
      have LNv := X.O.1.len underlying24
      rcases acc with _ | ⟨p1, _ | ⟨p2, acc⟩⟩
      · simp at ha1
      · have d2 : decide ((cs.length : Int) = 1) = true := by rw [hcl]; rfl
        obtain ⟨c1, hc1, P1⟩ := X.A.at (i := 0) rfl
        have IX' : aindexAddr prog 24 v (.int .i64 0) = some (.pointer (some (eltA v 7 0))) := Rd.index X.O.1 underlying24 asz26 (q := .i64) (i := 0) (by omega) (by rw [hcl]; simp)
        have LX : aload prog hh 26 (eltA v 7 0) = some (reV c1) := RS.agg X.O.1 reC_len underlying26 rfl asz26 hc1
        obtain ⟨h9, e9, l9, P9, R9, C9⟩ := fin_q (h0 := h) (d := c1) Hh X.V P1 (Nat.lt_succ_self _) X.R X.C (Nat.le_refl _) hr
        simp only [wk, wt, wl, ↓reduceIte, Nat.reduceEqDiff, Nat.reduceAdd, Nat.zero_add, not_false_eq_true, not_true_eq_false, t0, t2, t3, pt, pt, LNv, d2, IX', LX, e9, l9]
        exact R9c rfl (ReR.weak (fun b e => by show b < _; have : b < h.size := e; omega) _ _ P9) C9 R9
      · have d2 : decide ((cs.length : Int) = 1) = false := by rw [hcl]; simp; omega
        have PP : ReR hh (Lt (h.size + 1)) (.mk 9 0 [] false 0 0 (p1 :: p2 :: acc)) { rc0 with k := 9, pv := v } := ReR.ps X.O.1 (fun b e f => by have := X.hv b e; have : b < h.size + 1 := f; omega) X.A
        obtain ⟨h9, e9, l9, P9, R9, C9⟩ := fin_q (h0 := h) (d := { rc0 with k := 9, pv := v }) Hh X.V PP (Nat.lt_succ_self _) X.R X.C (Nat.le_refl _) hr
        simp only [wk, wt, wl, ↓reduceIte, Nat.reduceEqDiff, Nat.reduceAdd, Nat.zero_add, not_false_eq_true, not_true_eq_false, t0, t2, t3, pt, pt, LNv, d2, build_rep (Rd.one X.O.1), e9, l9]
        exact R9c rfl (ReR.weak (fun b e => by show b < _; have : b < h.size := e; omega) _ _ P9) C9 R9
theorem altsQ_all : ∀ k, k ≤ 16 → AltD k
  | 0, hk => altsQ_step hk fun j e => by omega
  | k + 1, hk => altsQ_step hk fun j e => by
    have : j = k := by omega
    subst this
    exact altsQ_all j (by omega)
/-- The document's answer. -/
theorem parseQ_ok {h : Heap} {pv : Value} {P : List Int} (S : RdI prog h .i32 pv P) (hP : PO P) :
    ACalls prog 12 #[pv] h (fun y h' => ∃ c, y = .tuple #[reV c, .int .i64 (parseR P).2] ∧ ReR h' (Lt h.size) (parseR P).1 c ∧ Keeps h h') := by
  refine acalls_of_W' func12 rfl (by kernel_rfl) (by kernel_rfl) (by simp [ntmps12]) ?_
  intro H
  have hPl := hP.1
  have N1 := Keeps.new H 26 (reC rc0)
  have V1 := Var.new (e := 26) H (cs := reC rc0)
  have hz1 : (h.new 26 (reC rc0)).size = h.size + 1 := rfl
  have N2 := Keeps.new (Ch.wf N1) 53 (qc pv 0 0 0 0)
  have V2 := Var.new (e := 53) (Ch.wf N1) (cs := qc pv 0 0 0 0)
  have K2 := N1.trans N2
  rw [hz1] at V2
  have S2 := S.keeps K2
  have hov : one pv = true := Rd.one S
  have R2 : QD ((h.new 26 (reC rc0)).new 53 (qc pv 0 0 0 0)) (h.size + 1) pv P 0 0 0 0 := ⟨V2, S2, fun b e => by have := (Rd.blk_lt S e).1; omega⟩
  have V12 := Keeps.var (Ch.wf N1) N2 V1
  have hz2 : ((h.new 26 (reC rc0)).new 53 (qc pv 0 0 0 0)).size = h.size + 2 := rfl
  have bld : abuild prog 53 #[(0, pv)] = some (.agg (qc pv 0 0 0 0).toArray) := by simp [abuild, wt, aplaces, Instr.fill, one_cells hov, hov]; rfl
  have bx : boxV prog (h.new 26 (reC rc0)) 53 (.agg (qc pv 0 0 0 0).toArray) = some (.pointer (some ⟨h.size + 1, 0, none⟩), (h.new 26 (reC rc0)).new 53 (qc pv 0 0 0 0)) := by
    unfold boxV
    rw [asz53]
    have h1 : ((Value.agg (qc pv 0 0 0 0).toArray).cells.all one) = true := by simp [Value.cells, qc, hov, one_int]
    simp only [h1, if_true, hz1]
    rfl
  generalize hh2 : (h.new 26 (reC rc0)).new 53 (qc pv 0 0 0 0) = h2 at *
  have H2 := Ch.wf K2
  simp only [wk, wt, wl, ↓reduceIte, Nat.reduceEqDiff, Nat.reduceAdd, Nat.zero_add, not_false_eq_true, not_true_eq_false, pt, newRe, newSz, bld, aeff_box, bx]
  have O2 : Okl (P.drop 0) 0 := ⟨by rw [List.drop_zero]; omega, by omega, fun x hx => hP.2 x (List.mem_of_mem_drop hx)⟩
  refine (altsQ_all 16 (Nat.le_refl _) h2 (h.size + 1) pv P 0 0 R2 (by omega) hP O2).use ?_
  rintro _ h3 ⟨q, c, rfl, P3, C3, hcase⟩
  rw [List.drop_zero] at hcase
  have V3 := Ch.var H2 C3 V12 (by omega)
  have N4 := Keeps.new (Ch.wf C3) 26 (reC rc0)
  obtain ⟨h4, e4, V4, C4, z4⟩ := (Var.new (e := 26) (Ch.wf C3) (cs := reC rc0)).put (Ch.wf N4) (d := c) P3.one1.1 P3.one1.2
  have K4 : Keeps h3 h4 := N4.step C4 fun b e => by omega
  have z4' : h4.size = h3.size + 1 := z4
  have hz3 := Ch.le C3
  have V34 := Keeps.var (Ch.wf C3) K4 V3
  have K04 : Keeps h h4 := K2.step (C3.then K4 (fun b e => e.elim) : Ch (Bx (h.size + 1)) h2 h4) fun b e => by have : b = h.size + 1 := e; omega
  have P4 : ReR h4 (fun b => b ≤ h.size) q c := ReR.weak (fun b e => by show b < _; have : b ≤ h.size := e; omega) _ _ (ReR.ch K4 (fun _ e => e.elim) q c P3)
  have fin : ∀ {hx : Heap} {d : RC} {p : Pat}, Keeps h hx → Var hx h.size (reC rc0) → ReR hx (fun b => b ≤ h.size) p d → ∃ h', storeV prog hx 26 (.pointer (some ⟨h.size, 0, none⟩)) (reV d) = some (undef, h') ∧ aload prog h' 26 ⟨h.size, 0, none⟩ = some (reV d) ∧ ReR h' (Lt h.size) p d ∧ Keeps h h' ∧ Ch (fun b => b = h.size) hx h' := fun K V Q => by
    obtain ⟨h', e1, V1, C1, z1⟩ := V.put (Ch.wf K) Q.one1.1 Q.one1.2
    exact ⟨h', e1, V1.re, ReR.weak (fun b e => by show b ≤ _; have : b < h.size := e; omega) _ _ (ReR.ch C1 (fun b e => by show b ≤ _; have : b = h.size := e; omega) _ _ Q), K.step C1 fun b e => by omega, C1⟩
  rcases hcase with ⟨k', g', hres, hk', R3⟩ | ⟨e, k', g', o', hres, he, R3⟩
  · have R4 := R3.keeps (Ch.wf C3) K4
    have LP := R4.2.1.ln (n := (P.length : Int)) rfl
    have d0 : decide ((0 : Int) = 0) = true := rfl
    have d0n : decide (¬ (0 : Int) = 0) = false := rfl
    by_cases c1 : k' < P.length
    · have d1 : decide ((k' : Int) < (P.length : Int)) = true := decide_eq_true (by omega)
      have hpr : parseR P = (pE, 10) := by
        unfold parseR parseM
        rw [hres]
        simp only
        rw [if_pos (by rw [List.length_drop]; omega)]
      have d2 : decide (¬ (10 : Int) = 0) = true := rfl
      obtain ⟨h5, e5, R5, C5, z5⟩ := R4.setE (Ch.wf K4) 10
      have V5 := Ch.var (Ch.wf K4) C5 V34 (by omega)
      have K05 : Keeps h h5 := K04.step C5 fun b e => by have : b = h.size + 1 := e; omega
      obtain ⟨h6, e6, l6, P6, K6, C6⟩ := fin K05 V5 (ReR.e (h := h5))
      simp only [wk, wt, wl, ↓reduceIte, Nat.reduceEqDiff, Nat.reduceAdd, Nat.zero_add, not_false_eq_true, not_true_eq_false, pt, newRe, newSz, e4, R4.l4, d0, R4.l1, LP, d1, e5, R5.l4, d2]
      refine adraw_all (.two 0 1 (.two 1 5 (.two 2 5 (.two 3 5 (.two 4 5 (.one 5 (.one 6 .nil)) (.one 4 (.one 6 .nil))) (.one 3 (.one 4 (.one 6 .nil)))) (.one 2 (.one 3 (.one 4 (.one 6 .nil))))) (.one 1 (.one 2 (.one 3 (.one 4 (.one 6 .nil)))))) (.two 0 2 (.two 2 5 (.two 3 5 (.two 4 5 (.one 5 (.one 6 .nil)) (.one 4 (.one 6 .nil))) (.one 3 (.one 4 (.one 6 .nil)))) (.one 2 (.one 3 (.one 4 (.one 6 .nil))))) (.two 0 3 (.two 3 5 (.two 4 5 (.one 5 (.one 6 .nil)) (.one 4 (.one 6 .nil))) (.one 3 (.one 4 (.one 6 .nil)))) (.two 0 4 (.two 4 5 (.one 5 (.one 6 .nil)) (.one 4 (.one 6 .nil))) (.one 0 (.one 5 (.one 6 .nil))))))) mixed (by kernel_rfl) (by kernel_rfl) (by kernel_rfl) ?_
      have L46 : aload prog h6 27 ⟨h.size + 1, 4, none⟩ = some (.int .i64 10) := (Ch.var (Ch.wf K05) C6 R5.1 (by omega)).load1 (P := prog) (t := 27) underlying27 rfl (i := 4)
      rw [hpr]
      simp only [wk, wt, wl, ↓reduceIte, Nat.reduceEqDiff, Nat.reduceAdd, Nat.zero_add, not_false_eq_true, not_true_eq_false, we, build_re0, pt, R5.l4, e6, L46, l6, and_self]
      exact ⟨rc0, rfl, ReR.e, K6⟩
    · have d1 : decide ((k' : Int) < (P.length : Int)) = false := decide_eq_false (by omega)
      have hnl : ¬ 0 < (P.drop k').length := by rw [List.length_drop]; omega
      simp only [wk, wt, wl, ↓reduceIte, Nat.reduceEqDiff, Nat.reduceAdd, Nat.zero_add, not_false_eq_true, not_true_eq_false, pt, newRe, newSz, e4, R4.l4, d0, d0n, R4.l1, LP, d1, V4.re]
      have hqok : PatOk q := altM_ok (grpM_ok 16) (grpM_GL 16) hPl hres
      have P4' := ReR.ch K4 (fun _ e => e.elim) q c P3
      refine (refSize_all _ q c h4 _ (Nat.lt_succ_self _) hqok P4').use ?_
      rintro _ h5 ⟨rfl, K5⟩
      have V5 := Keeps.var (Ch.wf K04) K5 V34
      have V45 := Keeps.var (Ch.wf K04) K5 V4
      have K05 := K04.trans K5
      by_cases c2 : 400 < sizeM q
      · have d2 := decide_eq_true c2
        have hpr : parseR P = (pE, 12) := by
          unfold parseR parseM
          rw [hres]
          simp only
          rw [if_neg hnl, if_pos c2]
        obtain ⟨h6, e6, l6, P6, K6, C6⟩ := fin K05 V5 (ReR.e (h := h5))
        simp only [wk, wt, wl, ↓reduceIte, Nat.reduceEqDiff, Nat.reduceAdd, Nat.zero_add, not_false_eq_true, not_true_eq_false, pt, d2, build_re0, e6, l6]
        rw [hpr]
        exact ⟨rc0, rfl, ReR.e, K6⟩
      · have d2 := decide_eq_false c2
        have hpr : parseR P = (q, 0) := by
          unfold parseR parseM
          rw [hres]
          simp only
          rw [if_neg hnl, if_neg c2]
        obtain ⟨h6, e6, l6, P6, K6, C6⟩ := fin K05 V5 (ReR.ch K5 (fun _ e => e.elim) q c P4)
        simp only [wk, wt, wl, ↓reduceIte, Nat.reduceEqDiff, Nat.reduceAdd, Nat.zero_add, not_false_eq_true, not_true_eq_false, pt, d2, V45.re, e6, l6]
        rw [hpr]
        exact ⟨c, rfl, P6, K6⟩
  · have R4 := R3.keeps (Ch.wf C3) K4
    have d0 : decide (e = 0) = false := decide_eq_false he
    have d2 : decide (¬ e = 0) = true := decide_eq_true he
    have hpr : parseR P = (pE, e) := by
      unfold parseR parseM
      rw [hres]
    obtain ⟨h6, e6, l6, P6, K6, C6⟩ := fin K04 V34 (ReR.e (h := h4))
    simp only [wk, wt, wl, ↓reduceIte, Nat.reduceEqDiff, Nat.reduceAdd, Nat.zero_add, not_false_eq_true, not_true_eq_false, pt, newRe, newSz, e4, R4.l4, d0, d2]
    refine adraw_all (.two 0 1 (.two 1 5 (.two 2 5 (.two 3 5 (.two 4 5 (.one 5 (.one 6 .nil)) (.one 4 (.one 6 .nil))) (.one 3 (.one 4 (.one 6 .nil)))) (.one 2 (.one 3 (.one 4 (.one 6 .nil))))) (.one 1 (.one 2 (.one 3 (.one 4 (.one 6 .nil)))))) (.two 0 2 (.two 2 5 (.two 3 5 (.two 4 5 (.one 5 (.one 6 .nil)) (.one 4 (.one 6 .nil))) (.one 3 (.one 4 (.one 6 .nil)))) (.one 2 (.one 3 (.one 4 (.one 6 .nil))))) (.two 0 3 (.two 3 5 (.two 4 5 (.one 5 (.one 6 .nil)) (.one 4 (.one 6 .nil))) (.one 3 (.one 4 (.one 6 .nil)))) (.two 0 4 (.two 4 5 (.one 5 (.one 6 .nil)) (.one 4 (.one 6 .nil))) (.one 0 (.one 5 (.one 6 .nil))))))) mixed (by kernel_rfl) (by kernel_rfl) (by kernel_rfl) ?_
    have L46 : aload prog h6 27 ⟨h.size + 1, 4, none⟩ = some (.int .i64 e) := (Ch.var (Ch.wf K04) C6 R4.1 (by omega)).load1 (P := prog) (t := 27) underlying27 rfl (i := 4)
    rw [hpr]
    simp only [wk, wt, wl, ↓reduceIte, Nat.reduceEqDiff, Nat.reduceAdd, Nat.zero_add, not_false_eq_true, not_true_eq_false, we, build_re0, pt, R4.l4, e6, L46, l6, and_self]
    exact ⟨rc0, rfl, ReR.e, K6⟩
end Go.Proofs.Ytnnkcbkenofhmaa.Am
end
section
/- PatParses told of abstract memory. -/
set_option linter.unusedSimpArgs false
set_option linter.unusedVariables false
set_option maxHeartbeats 4000000
set_option maxRecDepth 20000
namespace Go.Proofs.Ytnnkcbkenofhmaa.Am
open Go Go.RowKit Go.Proofs.Try
theorem patParses_law {h : Heap} {vp : Value} {P : List Int} (S : RdI prog h .i32 vp P) (h32 : I32 P) :
    ACalls prog 5 #[vp] h (fun y h' => y = .bool true ∧ Keeps h h') := by
  refine acalls_of_W' func5 rfl (by kernel_rfl) (by kernel_rfl) (by simp [ntmps5]) ?_
  intro H
  have LP := S.ln (n := (P.length : Int)) rfl
  have KR := Keeps.refl H
  by_cases c1 : 2000 < (P.length : Int)
  · have d1 := decide_eq_true c1
    simp only [wk, wt, wl, ↓reduceIte, Nat.reduceEqDiff, Nat.reduceAdd, Nat.zero_add, not_false_eq_true, not_true_eq_false, LP, d1]
    exact KR
  have d1 := decide_eq_false c1
  have hPl : P.length ≤ 2000 := by omega
  have bE : abuildSlice prog h 22 0 #[] = some (.slice (some ⟨h.size, 0, none⟩) 0 1, h.new 21 []) := build0 underlying22 asz21
  have OE : OwI h.size (h.new 21 []) (.slice (some ⟨h.size, 0, none⟩) 0 1) [] := OwI.new H (Nat.le_refl _)
  have N1 := Keeps.new H 21 []
  obtain ⟨v2, h2, e2, O2, K2, _, _⟩ := OE.app N1 (S.keeps N1) (by simp; omega)
  rw [List.nil_append] at O2
  simp only [wk, wt, wl, ↓reduceIte, Nat.reduceEqDiff, Nat.reduceAdd, Nat.zero_add, not_false_eq_true, not_true_eq_false, LP, d1, bE, e2]
  refine (parse_ok O2.rd (by omega) h32).use ?_
  rintro _ h3 ⟨c3, rfl, P3, K3⟩
  obtain ⟨h4, e4, V4, P4, K4, z4⟩ := var_new (K2.trans K3) P3
  have K24 := K3.trans K4
  have K04 := K2.trans K24
  simp only [wk, wt, wl, ↓reduceIte, Nat.reduceEqDiff, Nat.reduceAdd, Nat.zero_add, not_false_eq_true, not_true_eq_false, newRe, newSz, e4]
  refine (parseQ_ok (S.keeps K04) ⟨by omega, h32⟩).use ?_
  rintro _ h5 ⟨c5, rfl, P5, K5⟩
  obtain ⟨h6, e6, V6, P6, K6, z6⟩ := var_new (K04.trans K5) P5
  have K46 := K5.trans K6
  have K06 := K04.trans K46
  have V46 := Keeps.var (Ch.wf K04) K46 V4
  have P46 := ReR.ch K46 (fun _ e => e.elim) _ _ P4
  have okp := parseR_pat (l := P) (by omega)
  have d2 : decide ((parseR P).2 = (parseR P).2) = true := by simp
  have d3 : decide (IntKind.i64.wrap (cntM (parseR P).1) = IntKind.i64.wrap (cntM (parseR P).1)) = true := by simp
  simp only [wk, wt, wl, ↓reduceIte, Nat.reduceEqDiff, Nat.reduceAdd, Nat.zero_add, not_false_eq_true, not_true_eq_false, newRe, newSz, e6]
  refine adraw_order [(0, false), (1, false), (2, false), (3, false), (4, false), (5, false), (6, true), (7, false), (8, false), (9, false), (11, false), (10, true), (12, true), (13, false), (14, false), (15, false), (16, false), (17, false), (18, true), (19, false), (20, false), (21, true), (22, false), (23, false)] mixed (by kernel_rfl) (by kernel_rfl) (by kernel_rfl) (by with_reducible repeat (first | exact PF_retK | refine PF_thenK ?_ | refine PF_blockK ?_)) ?_
  simp only [wk, wt, wl, ↓reduceIte, Nat.reduceEqDiff, Nat.reduceAdd, Nat.zero_add, not_false_eq_true, not_true_eq_false, d2, V46.re, V6.re]
  refine (same_all _ _ c3 c5 _ _ _ (Nat.lt_succ_self _) okp P46 P6).use ?_
  rintro _ h7 ⟨rfl, K7⟩
  have K07 := K06.trans K7
  have V67 := Keeps.var (Ch.wf K06) K7 V6
  simp only [wk, wt, wl, ↓reduceIte, Nat.reduceEqDiff, Nat.reduceAdd, Nat.zero_add, not_false_eq_true, not_true_eq_false, dK_t, V67.re]
  refine ⟨K7.reads (Ch.wf K06), ?_⟩
  refine (groups_ok (S.keeps K07) (by omega) h32).use ?_
  rintro _ h8 ⟨rfl, K8⟩
  have K08 := K07.trans K8
  have V68 := Keeps.var (Ch.wf K06) (K7.trans K8) V6
  have P68 := ReR.ch (K7.trans K8) (fun _ e => e.elim) _ _ P6
  simp only [wk, wt, wl, ↓reduceIte, Nat.reduceEqDiff, Nat.reduceAdd, Nat.zero_add, not_false_eq_true, not_true_eq_false, dK_t]
  refine ⟨K8.reads (Ch.wf K07), ?_⟩
  refine (refCount_all _ _ c5 _ _ (Nat.lt_succ_self _) okp P68).use ?_
  rintro _ h9 ⟨rfl, K9⟩
  have K09 := K08.trans K9
  simp only [wk, wt, wl, ↓reduceIte, Nat.reduceEqDiff, Nat.reduceAdd, Nat.zero_add, not_false_eq_true, not_true_eq_false, dK_t, d3]
  refine ⟨K9.reads (Ch.wf K08), ?_⟩
  refine (runesEq_ok (O2.rd.keeps (((((K24.trans K46).trans K7).trans K8)).trans K9)) (S.keeps K09) (by omega)).use ?_
  rintro _ h10 ⟨rfl, hh⟩
  obtain rfl := hh.symm
  simp only [wk, wt, wl, ↓reduceIte, Nat.reduceEqDiff, Nat.reduceAdd, Nat.zero_add, not_false_eq_true, not_true_eq_false, dK_t]
  refine ⟨Reads.refl _, ?_⟩
  refine (awake_ok).use ?_
  rintro _ h11 ⟨rfl, K11⟩
  simp only [wk, wt, wl, ↓reduceIte, Nat.reduceEqDiff, Nat.reduceAdd, Nat.zero_add, not_false_eq_true, not_true_eq_false, dK_t]
  refine ⟨K11.reads (Ch.wf K09), ?_⟩
  exact K09.trans K11
end Go.Proofs.Ytnnkcbkenofhmaa.Am
end
