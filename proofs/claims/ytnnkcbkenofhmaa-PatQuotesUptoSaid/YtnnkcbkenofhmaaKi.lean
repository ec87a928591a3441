/- Patterns, the program: contract of pieces, by a walk. -/
import Derived.Test.YtnnkcbkenofhmaaKh
set_option linter.unusedSimpArgs false
set_option linter.unusedVariables false
set_option maxHeartbeats 4000000
set_option maxRecDepth 20000
namespace Go.Proofs.Ytnnkcbkenofhmaa.Am
open Go Go.RowKit Go.Proofs.Try
theorem body_rep : hasBody prog 34 = true := by kernel_rfl
/-- Parts one behind the other, of a list that grows: what the loops hold. -/
structure PieI (h hh : Heap) (rb pb : Nat) (o : Int) (v : Value) (acc : List Pat) (cs : List RC) (l : List Int) (g : Int) : Prop where
  V : Var hh h.size (reC rc0)
  O : OS prog (h.size + 1) hh 7 reC v cs
  A : RePs hh (Lt (h.size + 1)) acc cs
  hv : ∀ b, blkOf v = some b → h.size < b
  R : RD hh rb pb l g o
  C : Ch (Bx rb) h hh
  B : Okl l g
  z : h.size + 1 ≤ hh.size
theorem PieI.ch {h hh h2 : Heap} {rb pb : Nat} {o : Int} {v : Value} {acc : List Pat} {cs : List RC} {l t : List Int} {g g' : Int} (X : PieI h hh rb pb o v acc cs l g) {D : Nat → Prop} (C : Ch D hh h2) (hD : ∀ b, D b → b = rb ∨ hh.size ≤ b) (hr : rb < h.size) (R : RD h2 rb pb t g' o) (B : Okl t g') :
    PieI h h2 rb pb o v acc cs t g' :=
  have nv : ∀ b, blkOf v = some b → ¬ D b := fun b e f => by
    have h1 := (Rd.blk_lt X.O.1 e).1
    have h2 := X.hv b e
    rcases hD b f with q | q <;> omega
  ⟨Ch.var (Ch.wf X.C) C X.V (fun e => by have := X.z; rcases hD _ e with q | q <;> omega), Ch.own C X.O nv, RePs.chN C (fun b e => (hD b e).elim (fun q => .inl (by show b < _; omega)) .inr) acc cs X.A, X.hv, R, X.C.then C fun b e => (hD b e).elim .inr (fun q => .inl (by have := X.z; omega)), B, Nat.le_trans X.z (Ch.le C)⟩
/-- One part more. -/
theorem PieI.push {h hh : Heap} {rb pb : Nat} {o : Int} {v : Value} {acc : List Pat} {cs : List RC} {l : List Int} {g : Int} (X : PieI h hh rb pb o v acc cs l g) (hr : rb < h.size) (hp : pb < h.size) {p : Pat} {c : RC} (P : ReR hh (Lt (h.size + 1)) p c) (hb : cs.length ≤ 10000000) :
    ∃ v' h2, aappend prog (hh.new 26 (reC c)) 24 24 v (.slice (some ⟨hh.size, 0, none⟩) 1 2) = some (v', h2) ∧ PieI h h2 rb pb o v' (acc ++ [p]) (cs ++ [c]) l g ∧ Ch (fun b => blkOf v = some b ∧ h.size + 1 ≤ b) hh h2 := by
  have Hh := Ch.wf X.C
  obtain ⟨v', h2, e1, O1, C1, R1, ev⟩ := X.O.append1 (P := prog) Hh X.z underlying24 elem26 fits26 (by decide) (by decide) c rfl (by omega)
  refine ⟨v', h2, e1, ⟨Ch.var Hh C1 X.V (fun e => by have := e.2; omega), O1, RePs.snoc (RePs.reads R1 (Ch.le C1) _ _ X.A) (ReR.reads R1 (Ch.le C1) p c P), fun b e => ?_, X.R.ch Hh C1 (fun e => by have := e.2; omega) (fun e => by have := e.2; omega), X.C.then C1 fun b e => .inl (by have := e.2; omega), X.B, Nat.le_trans X.z (Ch.le C1)⟩, C1⟩
  have e2 : hh.size + 1 = b := by rw [ev] at e; cases e; rfl
  have := X.z
  omega
theorem acc_empty {h : Heap} {D : Nat → Prop} {acc : List Pat} {cs : List RC} (A : RePs h D acc cs) : decide ((cs.length : Int) = 0) = acc.isEmpty := by
  have := A.len
  cases acc with
  | nil => rw [this]; rfl
  | cons a acc => rw [this]; simp; omega
theorem pieces_ok {k : Nat} (hk : k ≤ 16) (G : ∀ j, k = j + 1 → AltC j) {h : Heap} {rb pb : Nat} {l : List Int} {g : Int} (R : RD h rb pb l g (16 - (k : Int))) (B : Okl l g) :
    AC 27 #[pt rb] h rb pb (16 - (k : Int)) (pieM (grpM k) (l.length + 1) [] l g) := by
  unfold AC
  refine acallsX_of_W' func27 rfl (by kernel_rfl) (by kernel_rfl) (by simp [ntmps27]) ?_
  intro H
  obtain ⟨hrl, hpl, hpr⟩ := R.lt H
  have N1 := Keeps.new H 26 (reC rc0)
  have V1 := Var.new (e := 26) H (cs := reC rc0)
  have R1 := R.keeps H N1
  have C1 : Ch (Bx rb) h (h.new 26 (reC rc0)) := N1.mono fun _ e => e.elim
  have hz1 : (h.new 26 (reC rc0)).size = h.size + 1 := rfl
  have X0 : PieI h (h.new 26 (reC rc0)) rb pb (16 - (k : Int)) nilS [] [] l g := ⟨V1, OS.nil, rfl, (fun b e => by cases e), R1, C1, B, by rw [hz1]; exact Nat.le_refl _⟩
  generalize hR : pieM (grpM k) (l.length + 1) [] l g = res
  simp only [wk, wt, wl, ↓reduceIte, Nat.reduceEqDiff, Nat.reduceAdd, Nat.zero_add, not_false_eq_true, not_true_eq_false, pt, newRe, newSz]
  refine W_loopI (fun n tm hh => tm 0 = pt rb ∧ tm 2 = pt h.size ∧ ∃ v acc cs l1 g1 m, tm 3 = v ∧ PieI h hh rb pb (16 - (k : Int)) v acc cs l1 g1 ∧ l1.length = n ∧ n < m ∧ acc.length + n ≤ l.length ∧ pieM (grpM k) m acc l1 g1 = res)
    ⟨l.length, (by first | rfl | (simp only [wk, wt, wl, ↓reduceIte, Nat.reduceEqDiff, Nat.reduceAdd, Nat.zero_add, not_false_eq_true, not_true_eq_false]; done) | (simp only [wk, wt, wl, ↓reduceIte, Nat.reduceEqDiff, Nat.reduceAdd, Nat.zero_add, not_false_eq_true, not_true_eq_false]; rfl) | (simp only [wk, wt, wl, ↓reduceIte, Nat.reduceEqDiff, Nat.reduceAdd, Nat.zero_add, not_false_eq_true, not_true_eq_false, pt]; done) | (simp only [wk, wt, wl, ↓reduceIte, Nat.reduceEqDiff, Nat.reduceAdd, Nat.zero_add, not_false_eq_true, not_true_eq_false, pt]; rfl)), (by first | rfl | (simp only [wk, wt, wl, ↓reduceIte, Nat.reduceEqDiff, Nat.reduceAdd, Nat.zero_add, not_false_eq_true, not_true_eq_false]; done) | (simp only [wk, wt, wl, ↓reduceIte, Nat.reduceEqDiff, Nat.reduceAdd, Nat.zero_add, not_false_eq_true, not_true_eq_false]; rfl) | (simp only [wk, wt, wl, ↓reduceIte, Nat.reduceEqDiff, Nat.reduceAdd, Nat.zero_add, not_false_eq_true, not_true_eq_false, pt]; done) | (simp only [wk, wt, wl, ↓reduceIte, Nat.reduceEqDiff, Nat.reduceAdd, Nat.zero_add, not_false_eq_true, not_true_eq_false, pt]; rfl)), nilS, [], [], l, g, l.length + 1, (by first | rfl | (simp only [wk, wt, wl, ↓reduceIte, Nat.reduceEqDiff, Nat.reduceAdd, Nat.zero_add, not_false_eq_true, not_true_eq_false]; done) | (simp only [wk, wt, wl, ↓reduceIte, Nat.reduceEqDiff, Nat.reduceAdd, Nat.zero_add, not_false_eq_true, not_true_eq_false]; rfl) | (simp only [wk, wt, wl, ↓reduceIte, Nat.reduceEqDiff, Nat.reduceAdd, Nat.zero_add, not_false_eq_true, not_true_eq_false, nilS]; done) | (simp only [wk, wt, wl, ↓reduceIte, Nat.reduceEqDiff, Nat.reduceAdd, Nat.zero_add, not_false_eq_true, not_true_eq_false, nilS]; rfl)), X0, rfl, by omega, by simp, hR⟩ ?_
  clear X0 C1 R1 V1 N1 hz1 hR
  rintro n tm hh ⟨t0, t2, v, acc, cs, l1, g1, m, t3, X, hn, hm, hac, hR⟩
  obtain ⟨m, rfl⟩ : ∃ q, m = q + 1 := ⟨m - 1, by omega⟩
  have Hh := Ch.wf X.C
  have hbl := X.B.1
  have hcl := X.A.len
  have hll : l.length ≤ 10000000 := by have := B.1; have := B.2.1; omega
  obtain ⟨rv, RV, S, _⟩ := id X.R
  have L0 := RV.ld.1
  have LNv := X.O.1.len underlying24
  simp only [wk, wt, wl, ↓reduceIte, Nat.reduceEqDiff, Nat.reduceAdd, Nat.zero_add, not_false_eq_true, not_true_eq_false, t0, t2, t3, pt, L0]
  refine (ended_ok S).use_pure ?_
  cases he : endedM l1 with
  | true =>
    have hres : res = .ok (pCat acc, l1, g1) := by rw [← hR]; simp only [pieM]; rw [he]; rfl
    have hAv := Rd.one X.O.1
    have EQ0 : ∀ {q : Pat}, pCat acc = q → res = .ok (q, l1, g1) := fun e => by rw [hres, e]
    rcases acc with _ | ⟨p1, _ | ⟨p2, acc⟩⟩
    · have d1 : decide ((cs.length : Int) = 0) = true := by rw [hcl]; rfl
      obtain ⟨h9, e9, l9, P9, R9, C9⟩ := fin_put (h0 := h) (d := rc0) Hh X.V ReR.e X.R X.C (Nat.le_refl _) hpl hrl
      simp only [wk, wt, wl, ↓reduceIte, Nat.reduceEqDiff, Nat.reduceAdd, Nat.zero_add, not_false_eq_true, not_true_eq_false, t0, t2, t3, pt, LNv, d1, build_re0, e9, l9]
      exact ⟨_, _, _, _, EQ0 rfl, rfl, P9, R9, C9⟩
    · have d1 : decide ((cs.length : Int) = 0) = false := by rw [hcl]; rfl
      have d2 : decide ((cs.length : Int) = 1) = true := by rw [hcl]; rfl
      obtain ⟨c1, hc1, P1⟩ := X.A.at (i := 0) rfl
      have IX := Rd.index X.O.1 underlying24 asz26 (q := .i64) (i := 0) (by omega) (by rw [hcl]; simp)
      have LX : aload prog hh 26 (eltA v 7 0) = some (reV c1) := RS.agg X.O.1 reC_len underlying26 rfl asz26 hc1
      have IX' : aindexAddr prog 24 v (.int .i64 0) = some (.pointer (some (eltA v 7 0))) := IX
      obtain ⟨h9, e9, l9, P9, R9, C9⟩ := fin_put (h0 := h) (d := c1) Hh X.V (ReR.weak (fun b e => by show b < _; rcases e with e | e <;> omega) _ _ P1) X.R X.C (Nat.le_refl _) hpl hrl
      simp only [wk, wt, wl, ↓reduceIte, Nat.reduceEqDiff, Nat.reduceAdd, Nat.zero_add, not_false_eq_true, not_true_eq_false, t0, t2, t3, pt, LNv, d1, d2, IX', LX, e9, l9]
      exact ⟨_, _, _, _, EQ0 rfl, rfl, P9, R9, C9⟩
    · have d1 : decide ((cs.length : Int) = 0) = false := by rw [hcl]; simp; omega
      have d2 : decide ((cs.length : Int) = 1) = false := by rw [hcl]; simp; omega
      have PP : ReR hh (LtV h.size h.size) (.mk 8 0 [] false 0 0 (p1 :: p2 :: acc)) { rc0 with k := 8, pv := v } := ReR.ps X.O.1 (fun b e f => by have := X.hv b e; rcases f with f | f <;> omega) (RePs.weak (fun b e => by show b < _; rcases e with e | e <;> omega) _ _ X.A)
      obtain ⟨h9, e9, l9, P9, R9, C9⟩ := fin_put (h0 := h) (d := { rc0 with k := 8, pv := v }) Hh X.V PP X.R X.C (Nat.le_refl _) hpl hrl
      simp only [wk, wt, wl, ↓reduceIte, Nat.reduceEqDiff, Nat.reduceAdd, Nat.zero_add, not_false_eq_true, not_true_eq_false, t0, t2, t3, pt, LNv, d1, d2, build_rep hAv, e9, l9]
      exact ⟨_, _, _, _, EQ0 rfl, rfl, P9, R9, C9⟩
  | false =>
    have hres : res = (match atomM (grpM k) acc.isEmpty l1 g1 with
      | .error e => .error e
      | .ok (p, t, g') => match repsM (t.length + 1) p t with
        | .error e => .error e
        | .ok (q, u) => pieM (grpM k) m (acc ++ [q]) u g') := by rw [← hR]; simp only [pieM]; rw [he]; rfl
    have hac0 := acc_empty X.A
    simp only [wk, wt, wl, ↓reduceIte, Nat.reduceEqDiff, Nat.reduceAdd, Nat.zero_add, not_false_eq_true, not_true_eq_false, t0, t2, t3, pt, LNv, hac0]
    refine (atom_ok hk G X.R X.B he).ok ?_ ?_
    · intro p t g' c h2 ha P2 R2 C2
      rw [ha] at hres
      simp only at hres
      have hlen := atomM_len (grpM_GL k) (ended_ne he) ha
      have B2 : Okl t g' := X.B.sb (atomM_sb (grpM_GS k) ha) hlen.2.1 hlen.2.2
      have X2 := X.ch C2 (fun b e => .inl e) hrl R2 B2
      have N3 := Keeps.new (Ch.wf C2) 26 (reC rc0)
      obtain ⟨h3, e3, V3, C3, z3⟩ := (Var.new (e := 26) (Ch.wf C2) (cs := reC rc0)).put (Ch.wf N3) (d := c) P2.one1.1 P2.one1.2
      have K3 : Keeps h2 h3 := N3.step C3 fun b e => by omega
      have X3 := X2.ch K3 (fun b e => e.elim) hrl (R2.keeps (Ch.wf C2) K3) B2
      have hz2 := Ch.le C2
      have hz := X.z
      have z3' : h3.size = h2.size + 1 := z3
      have P3 : ReR h3 (LtV (h.size + 1) h2.size) p c := ReR.ch K3 (fun _ e => e.elim) p c (ReR.up (fun b e => e.elim (fun e => .inl (by show b < _; omega)) (fun e => .inr (by omega))) p c P2)
      have A3 : RePs h3 (LtV (h.size + 1) h2.size) acc cs := RePs.ch K3 (fun _ e => e.elim) acc cs (RePs.up (fun b e => e.elim .inl (fun e => .inr (by omega))) acc cs X2.A)
      have hvt : ∀ b, blkOf v = some b → b < h2.size := fun b e => by have := (Rd.blk_lt X.O.1 e).1; omega
      obtain ⟨q0, hq0⟩ : ∃ q0, q0 = t.length + 1 := ⟨_, rfl⟩
      generalize hI : repsM (t.length + 1) p t = ires at hres
      simp only [wk, wt, wl, ↓reduceIte, Nat.reduceEqDiff, Nat.reduceAdd, Nat.zero_add, not_false_eq_true, not_true_eq_false, t0, t2, t3, pt, newRe, newSz, e3]
      refine W_loopI (fun n' tm' hh' => tm' 0 = pt rb ∧ tm' 2 = pt h.size ∧ tm' 3 = v ∧ tm' 4 = pt h2.size ∧ ∃ q c' l2 m2, Var hh' h2.size (reC c') ∧ ReR hh' (LtV (h.size + 1) h2.size) q c' ∧ RePs hh' (LtV (h.size + 1) h2.size) acc cs ∧ PieI h hh' rb pb (16 - (k : Int)) v acc cs l2 g' ∧ h2.size + 1 ≤ hh'.size ∧ l2.length = n' ∧ n' < m2 ∧ n' ≤ t.length ∧ repsM m2 q l2 = ires)
        ⟨t.length, (by first | rfl | (simp only [wk, wt, wl, ↓reduceIte, Nat.reduceEqDiff, Nat.reduceAdd, Nat.zero_add, not_false_eq_true, not_true_eq_false]; done) | (simp only [wk, wt, wl, ↓reduceIte, Nat.reduceEqDiff, Nat.reduceAdd, Nat.zero_add, not_false_eq_true, not_true_eq_false]; rfl) | (simp only [wk, wt, wl, ↓reduceIte, Nat.reduceEqDiff, Nat.reduceAdd, Nat.zero_add, not_false_eq_true, not_true_eq_false, t0, pt]; done) | (simp only [wk, wt, wl, ↓reduceIte, Nat.reduceEqDiff, Nat.reduceAdd, Nat.zero_add, not_false_eq_true, not_true_eq_false, t0, pt]; rfl)), (by first | rfl | (simp only [wk, wt, wl, ↓reduceIte, Nat.reduceEqDiff, Nat.reduceAdd, Nat.zero_add, not_false_eq_true, not_true_eq_false]; done) | (simp only [wk, wt, wl, ↓reduceIte, Nat.reduceEqDiff, Nat.reduceAdd, Nat.zero_add, not_false_eq_true, not_true_eq_false]; rfl) | (simp only [wk, wt, wl, ↓reduceIte, Nat.reduceEqDiff, Nat.reduceAdd, Nat.zero_add, not_false_eq_true, not_true_eq_false, t2, pt]; done) | (simp only [wk, wt, wl, ↓reduceIte, Nat.reduceEqDiff, Nat.reduceAdd, Nat.zero_add, not_false_eq_true, not_true_eq_false, t2, pt]; rfl)), (by first | rfl | (simp only [wk, wt, wl, ↓reduceIte, Nat.reduceEqDiff, Nat.reduceAdd, Nat.zero_add, not_false_eq_true, not_true_eq_false]; done) | (simp only [wk, wt, wl, ↓reduceIte, Nat.reduceEqDiff, Nat.reduceAdd, Nat.zero_add, not_false_eq_true, not_true_eq_false]; rfl) | (simp only [wk, wt, wl, ↓reduceIte, Nat.reduceEqDiff, Nat.reduceAdd, Nat.zero_add, not_false_eq_true, not_true_eq_false, t3]; done) | (simp only [wk, wt, wl, ↓reduceIte, Nat.reduceEqDiff, Nat.reduceAdd, Nat.zero_add, not_false_eq_true, not_true_eq_false, t3]; rfl)), (by first | rfl | (simp only [wk, wt, wl, ↓reduceIte, Nat.reduceEqDiff, Nat.reduceAdd, Nat.zero_add, not_false_eq_true, not_true_eq_false]; done) | (simp only [wk, wt, wl, ↓reduceIte, Nat.reduceEqDiff, Nat.reduceAdd, Nat.zero_add, not_false_eq_true, not_true_eq_false]; rfl) | (simp only [wk, wt, wl, ↓reduceIte, Nat.reduceEqDiff, Nat.reduceAdd, Nat.zero_add, not_false_eq_true, not_true_eq_false, pt]; done) | (simp only [wk, wt, wl, ↓reduceIte, Nat.reduceEqDiff, Nat.reduceAdd, Nat.zero_add, not_false_eq_true, not_true_eq_false, pt]; rfl)), p, c, t, t.length + 1, V3, P3, A3, X3, by omega, rfl, by omega, Nat.le_refl _, hI⟩ ?_
      clear t0 t2 t3 X3 V3 P3 A3
      rintro n' tm hh' ⟨t0, t2, t3, t4, q, c', l2, m2, V4, P4, A4, X4, z4, hn', hm2, hnt, hI⟩
      obtain ⟨m2, rfl⟩ : ∃ q, m2 = q + 1 := ⟨m2 - 1, by omega⟩
      have H4 := Ch.wf X4.C
      have LK := V4.load1 (P := prog) (t := 3) underlying3 rfl (i := 0)
      simp only [reC, List.getElem?_cons_zero] at LK
      rw [P4.kind] at LK
      have fin : ∀ (tm : Tm) (hx : Heap) (q : Pat) (c' : RC) (l2 : List Int), tm 0 = pt rb → tm 2 = pt h.size → tm 3 = v → tm 4 = pt h2.size → Var hx h2.size (reC c') → ReR hx (LtV (h.size + 1) h2.size) q c' → PieI h hx rb pb (16 - (k : Int)) v acc cs l2 g' → l2.length < n → l2.length ≤ t.length → ires = .ok (q, l2) → True := fun _ _ _ _ _ _ _ _ _ _ _ _ _ _ _ => trivial
      by_cases c4 : q.kind = 4
      · have d4 : decide (¬ q.kind = 4) = false := by simp [c4]
        have hq : ires = .ok (q, l2) := by rw [← hI]; simp only [repsM]; rw [if_pos c4]
        simp only [wk, wt, wl, ↓reduceIte, Nat.reduceEqDiff, Nat.reduceAdd, Nat.zero_add, not_false_eq_true, not_true_eq_false, t0, t2, t3, t4, pt, LK, d4]
        rw [hq] at hres
        obtain ⟨v6, h6, e6, X6, C6⟩ := X4.push hrl hpl (ReR.weak (fun b e => .inl e) _ _ P4) (by omega)
        simp only [wk, wt, wl, ↓reduceIte, Nat.reduceEqDiff, Nat.reduceAdd, Nat.zero_add, not_false_eq_true, not_true_eq_false, t0, t2, t3, t4, pt, V4.re, bsRe (h := hh') P4.one1.1 P4.one1.2, e6]
        exact ⟨l2.length, by omega, v6, _, _, l2, g', m, rfl, X6, rfl, by omega, by simp; omega, hres.symm⟩
      · have d4 : decide (¬ q.kind = 4) = true := by simp [c4]
        have hI2 : ires = (match repM q l2 with
          | .error e => .error e
          | .ok none => .ok (q, l2)
          | .ok (some (q, t)) => repsM m2 q t) := by rw [← hI]; simp only [repsM]; rw [if_neg c4]; rfl
        simp only [wk, wt, wl, ↓reduceIte, Nat.reduceEqDiff, Nat.reduceAdd, Nat.zero_add, not_false_eq_true, not_true_eq_false, t0, t2, t3, t4, pt, LK, d4]
        refine ACallsX.mono (repeat_ok X4.R V4 P4 (fun b e => by rcases e with e | e <;> omega) (.inl (by omega)) (.inr rfl) (by omega) (by omega)) ?_ ?_
        · rintro _ h5 (⟨hr, rfl, hh⟩ | ⟨q5, u, c5, hr, rfl, V5, P5, R5, C5⟩)
          · obtain rfl := hh.symm
            rw [hr] at hI2
            have hq : ires = .ok (q, l2) := hI2
            simp only [wk, wt, wl, ↓reduceIte, Nat.reduceEqDiff, Nat.reduceAdd, Nat.zero_add, not_false_eq_true, not_true_eq_false, t0, t2, t3, t4, pt]
            rw [hq] at hres
            obtain ⟨v6, h6, e6, X6, C6⟩ := X4.push hrl hpl (ReR.weak (fun b e => .inl e) _ _ P4) (by omega)
            simp only [wk, wt, wl, ↓reduceIte, Nat.reduceEqDiff, Nat.reduceAdd, Nat.zero_add, not_false_eq_true, not_true_eq_false, t0, t2, t3, t4, pt, V4.re, bsRe (h := hh') P4.one1.1 P4.one1.2, e6]
            exact ⟨l2.length, by omega, v6, _, _, l2, g', m, rfl, X6, rfl, by omega, by simp; omega, hres.symm⟩
          · rw [hr] at hI2
            have hlu := repM_len hr
            have B5 : Okl u g' := X4.B.sb (repM_sb hr) (by omega) (Int.le_refl _)
            have nD : ∀ b, (b = rb ∨ b = h2.size) → LtV (h.size + 1) h2.size b := fun b e => e.elim (fun e => .inl (by omega)) .inr
            have A5 := RePs.ch C5 nD acc cs A4
            have X5 : PieI h h5 rb pb (16 - (k : Int)) v acc cs u g' := ⟨Ch.var H4 C5 X4.V (fun e => by rcases e with e | e <;> omega), Ch.own C5 X4.O (fun b e f => by
              have h1 := hvt b e
              have h2 := X.hv b e
              rcases f with f | f <;> omega), RePs.weak (fun b e => .inl e) acc cs A5, X.hv, R5, X4.C.then C5 fun b e => e.elim .inr (fun e => .inl (by omega)), B5, Nat.le_trans X4.z (Ch.le C5)⟩
            simp only [wk, wt, wl, ↓reduceIte, Nat.reduceEqDiff, Nat.reduceAdd, Nat.zero_add, not_false_eq_true, not_true_eq_false, t0, t2, t3, t4, pt]
            exact ⟨u.length, by omega, q5, c5, u, m2, V5, P5, A5, X5, by have := Ch.le C5; omega, rfl, by omega, by omega, hI2.symm⟩
        · rintro _ h5 ⟨e, hr, rfl, C5⟩
          rw [hr] at hI2
          rw [hI2] at hres
          simp only [wk, wt, wl, ↓reduceIte, Nat.reduceEqDiff, Nat.reduceAdd, Nat.zero_add, not_false_eq_true, not_true_eq_false]
          exact ⟨e, hres, rfl, X4.C.then C5 fun b e => e.elim .inr (fun e => .inl (by omega))⟩
    · intro e h2 ha C2
      rw [ha] at hres
      simp only [wk, wt, wl, ↓reduceIte, Nat.reduceEqDiff, Nat.reduceAdd, Nat.zero_add, not_false_eq_true, not_true_eq_false]
      exact ⟨e, hres, rfl, X.C.then C2 fun b e => .inr e⟩
end Go.Proofs.Ytnnkcbkenofhmaa.Am
