/- Patterns, the program: contract of alternatives, by a walk; of any depth. -/
import Derived.Test.YtnnkcbkenofhmaaKi
set_option linter.unusedSimpArgs false
set_option linter.unusedVariables false
set_option maxHeartbeats 4000000
set_option maxRecDepth 20000
namespace Go.Proofs.Ytnnkcbkenofhmaa.Am
open Go Go.RowKit Go.Proofs.Try
theorem alts_step {k : Nat} (hk : k ≤ 16) (G : ∀ j, k = j + 1 → AltC j) : AltC k := by
  intro h rb pb l g R B
  unfold AC
  refine acallsX_of_W' func20 rfl (by kernel_rfl) (by kernel_rfl) (by simp [ntmps20]) ?_
  intro H
  obtain ⟨hrl, hpl, hpr⟩ := R.lt H
  have N1 := Keeps.new H 26 (reC rc0)
  have V1 := Var.new (e := 26) H (cs := reC rc0)
  have R1 := R.keeps H N1
  have C1 : Ch (Bx rb) h (h.new 26 (reC rc0)) := N1.mono fun _ e => e.elim
  have hz1 : (h.new 26 (reC rc0)).size = h.size + 1 := rfl
  have hll : l.length ≤ 10000000 := by have := B.1; have := B.2.1; omega
  have hres : ∃ res, altM (grpM k) l g = res ∧ res = (match pieM (grpM k) (l.length + 1) [] l g with
    | .error e => .error e
    | .ok (p, t, g') => altsM (grpM k) (t.length + 1) [p] t g') := ⟨_, rfl, rfl⟩
  obtain ⟨res, hr0, hres⟩ := hres
  rw [hr0]
  simp only [wk, wt, wl, ↓reduceIte, Nat.reduceEqDiff, Nat.reduceAdd, Nat.zero_add, not_false_eq_true, not_true_eq_false, pt, newRe, newSz]
  refine (pieces_ok hk G R1 B).ok ?_ ?_
  · intro p t g' c h2 hp P2 R2 C2
    rw [hp] at hres
    simp only at hres
    have hl1 := (pieM_len (grpM_GL k) _ hp).1
    have B2 : Okl t g' := B.sb (pieM_sb (grpM_GS k) _ hp) hl1.2.1 hl1.2.2
    have N3 := Keeps.new (Ch.wf C2) 26 (reC c)
    have hz2 := Ch.le C2
    rw [hz1] at hz2
    have O3 : OS prog (h.size + 1) (h2.new 26 (reC c)) 7 reC (.slice (some ⟨h2.size, 0, none⟩) 1 2) [c] := Own.new (Ch.wf C2) hz2 asz26 rfl
    have X3 : PieI h (h2.new 26 (reC c)) rb pb (16 - (k : Int)) (.slice (some ⟨h2.size, 0, none⟩) 1 2) [p] [c] t g' :=
      ⟨Keeps.var (Ch.wf C2) N3 (Ch.var (Ch.wf N1) C2 V1 (by omega)), O3, RePs.one (ReR.ch N3 (fun _ e => e.elim) p c P2), (fun b e => by
        have e2 : h2.size = b := by cases e; rfl
        omega), R2.keeps (Ch.wf C2) N3, (C1.then C2 fun b e => .inr e).then N3 fun _ e => e.elim, B2, by show h.size + 1 ≤ h2.size + 1; omega⟩
    simp only [wk, wt, wl, ↓reduceIte, Nat.reduceEqDiff, Nat.reduceAdd, Nat.zero_add, not_false_eq_true, not_true_eq_false, pt, bsRe (h := h2) P2.one1.1 P2.one1.2]
    refine W_loopI (fun n tm hh => tm 0 = pt rb ∧ tm 2 = pt h.size ∧ ∃ v acc cs l1 g1 m, tm 3 = v ∧ PieI h hh rb pb (16 - (k : Int)) v acc cs l1 g1 ∧ l1.length = n ∧ n < m ∧ acc.length + n ≤ l.length + 1 ∧ 1 ≤ acc.length ∧ altsM (grpM k) m acc l1 g1 = res)
      ⟨t.length, (by first | rfl | (simp only [wk, wt, wl, ↓reduceIte, Nat.reduceEqDiff, Nat.reduceAdd, Nat.zero_add, not_false_eq_true, not_true_eq_false]; done) | (simp only [wk, wt, wl, ↓reduceIte, Nat.reduceEqDiff, Nat.reduceAdd, Nat.zero_add, not_false_eq_true, not_true_eq_false]; rfl) | (simp only [wk, wt, wl, ↓reduceIte, Nat.reduceEqDiff, Nat.reduceAdd, Nat.zero_add, not_false_eq_true, not_true_eq_false, pt]; done) | (simp only [wk, wt, wl, ↓reduceIte, Nat.reduceEqDiff, Nat.reduceAdd, Nat.zero_add, not_false_eq_true, not_true_eq_false, pt]; rfl)), (by first | rfl | (simp only [wk, wt, wl, ↓reduceIte, Nat.reduceEqDiff, Nat.reduceAdd, Nat.zero_add, not_false_eq_true, not_true_eq_false]; done) | (simp only [wk, wt, wl, ↓reduceIte, Nat.reduceEqDiff, Nat.reduceAdd, Nat.zero_add, not_false_eq_true, not_true_eq_false]; rfl) | (simp only [wk, wt, wl, ↓reduceIte, Nat.reduceEqDiff, Nat.reduceAdd, Nat.zero_add, not_false_eq_true, not_true_eq_false, pt]; done) | (simp only [wk, wt, wl, ↓reduceIte, Nat.reduceEqDiff, Nat.reduceAdd, Nat.zero_add, not_false_eq_true, not_true_eq_false, pt]; rfl)), _, [p], [c], t, g', t.length + 1, (by first | rfl | (simp only [wk, wt, wl, ↓reduceIte, Nat.reduceEqDiff, Nat.reduceAdd, Nat.zero_add, not_false_eq_true, not_true_eq_false]; done) | (simp only [wk, wt, wl, ↓reduceIte, Nat.reduceEqDiff, Nat.reduceAdd, Nat.zero_add, not_false_eq_true, not_true_eq_false]; rfl)), X3, rfl, by omega, by simp; omega, by simp, hres.symm⟩ ?_
    clear X3 O3
    rintro n tm hh ⟨t0, t2, v, acc, cs, l1, g1, m, t3, X, hn, hm, hac, ha1, hR⟩
    obtain ⟨m, rfl⟩ : ∃ q, m = q + 1 := ⟨m - 1, by omega⟩
    have Hh := Ch.wf X.C
    have hbl := X.B.1
    have hcl := X.A.len
    have LNv := X.O.1.len underlying24
    simp only [wk, wt, wl, ↓reduceIte, Nat.reduceEqDiff, Nat.reduceAdd, Nat.zero_add, not_false_eq_true, not_true_eq_false, t0, t2, t3, pt]
    refine (peek_ok X.R).use_pure ?_
    have brk : barM l1 = false → res = .ok (pAlt acc, l1, g1) := fun e => by rw [← hR]; simp only [altsM]; rw [e]; rfl
    have go : barM l1 = true → res = (match pieM (grpM k) ((l1.drop 2).length + 1) [] (l1.drop 2) g1 with
      | .error e => .error e
      | .ok (p, t, g') => altsM (grpM k) m (acc ++ [p]) t g') := fun e => by rw [← hR]; simp only [altsM]; rw [e]; rfl
    rcases l1 with _ | ⟨x, _ | ⟨y, u⟩⟩
    · have hr2 := brk rfl
      have d1 : decide (¬ (0 : Int) = 2) = true := rfl
      rcases acc with _ | ⟨p1, _ | ⟨p2, acc⟩⟩
      · simp at ha1
      · have d7 : decide ((cs.length : Int) = 1) = true := by rw [hcl]; rfl
        obtain ⟨c1, hc1, P1⟩ := X.A.at (i := 0) rfl
        have IX : aindexAddr prog 24 v (.int .i64 0) = some (.pointer (some (eltA v 7 0))) := Rd.index X.O.1 underlying24 asz26 (q := .i64) (i := 0) (by omega) (by rw [hcl]; simp)
        have LX : aload prog hh 26 (eltA v 7 0) = some (reV c1) := RS.agg X.O.1 reC_len underlying26 rfl asz26 hc1
        obtain ⟨h9, e9, l9, P9, R9, C9⟩ := fin_put (h0 := h) (d := c1) Hh X.V (ReR.weak (fun b e => by show b < _; rcases e with e | e <;> omega) _ _ P1) X.R X.C (Nat.le_refl _) hpl hrl
        simp only [wk, wt, wl, ↓reduceIte, Nat.reduceEqDiff, Nat.reduceAdd, Nat.zero_add, not_false_eq_true, not_true_eq_false, t0, t2, t3, pt, peekV, peekM, d1, LNv, d7, IX, LX, e9, l9]
        exact ⟨_, _, _, _, hr2, rfl, P9, R9, C9⟩
      · have d7 : decide ((cs.length : Int) = 1) = false := by rw [hcl]; simp; omega
        have PP : ReR hh (LtV h.size h.size) (.mk 9 0 [] false 0 0 (p1 :: p2 :: acc)) { rc0 with k := 9, pv := v } := ReR.ps X.O.1 (fun b e f => by have := X.hv b e; rcases f with f | f <;> omega) (RePs.weak (fun b e => by show b < _; rcases e with e | e <;> omega) _ _ X.A)
        obtain ⟨h9, e9, l9, P9, R9, C9⟩ := fin_put (h0 := h) (d := { rc0 with k := 9, pv := v }) Hh X.V PP X.R X.C (Nat.le_refl _) hpl hrl
        simp only [wk, wt, wl, ↓reduceIte, Nat.reduceEqDiff, Nat.reduceAdd, Nat.zero_add, not_false_eq_true, not_true_eq_false, t0, t2, t3, pt, peekV, peekM, d1, LNv, d7, build_rep (Rd.one X.O.1), e9, l9]
        exact ⟨_, _, _, _, hr2, rfl, P9, R9, C9⟩
    · have hr2 := brk rfl
      have d1 : decide (¬ (1 : Int) = 2) = true := rfl
      rcases acc with _ | ⟨p1, _ | ⟨p2, acc⟩⟩
      · simp at ha1
      · have d7 : decide ((cs.length : Int) = 1) = true := by rw [hcl]; rfl
        obtain ⟨c1, hc1, P1⟩ := X.A.at (i := 0) rfl
        have IX : aindexAddr prog 24 v (.int .i64 0) = some (.pointer (some (eltA v 7 0))) := Rd.index X.O.1 underlying24 asz26 (q := .i64) (i := 0) (by omega) (by rw [hcl]; simp)
        have LX : aload prog hh 26 (eltA v 7 0) = some (reV c1) := RS.agg X.O.1 reC_len underlying26 rfl asz26 hc1
        obtain ⟨h9, e9, l9, P9, R9, C9⟩ := fin_put (h0 := h) (d := c1) Hh X.V (ReR.weak (fun b e => by show b < _; rcases e with e | e <;> omega) _ _ P1) X.R X.C (Nat.le_refl _) hpl hrl
        simp only [wk, wt, wl, ↓reduceIte, Nat.reduceEqDiff, Nat.reduceAdd, Nat.zero_add, not_false_eq_true, not_true_eq_false, t0, t2, t3, pt, peekV, peekM, d1, LNv, d7, IX, LX, e9, l9]
        exact ⟨_, _, _, _, hr2, rfl, P9, R9, C9⟩
      · have d7 : decide ((cs.length : Int) = 1) = false := by rw [hcl]; simp; omega
        have PP : ReR hh (LtV h.size h.size) (.mk 9 0 [] false 0 0 (p1 :: p2 :: acc)) { rc0 with k := 9, pv := v } := ReR.ps X.O.1 (fun b e f => by have := X.hv b e; rcases f with f | f <;> omega) (RePs.weak (fun b e => by show b < _; rcases e with e | e <;> omega) _ _ X.A)
        obtain ⟨h9, e9, l9, P9, R9, C9⟩ := fin_put (h0 := h) (d := { rc0 with k := 9, pv := v }) Hh X.V PP X.R X.C (Nat.le_refl _) hpl hrl
        simp only [wk, wt, wl, ↓reduceIte, Nat.reduceEqDiff, Nat.reduceAdd, Nat.zero_add, not_false_eq_true, not_true_eq_false, t0, t2, t3, pt, peekV, peekM, d1, LNv, d7, build_rep (Rd.one X.O.1), e9, l9]
        exact ⟨_, _, _, _, hr2, rfl, P9, R9, C9⟩
    · by_cases c1 : x = 92
      · have pk : peekV (x :: y :: u) = .tuple #[.int .i32 92, .int .i32 y, .int .i64 2] := by simp [peekV, peekM, c1]
        have d1 : decide (¬ (2 : Int) = 2) = false := rfl
        by_cases c2 : y = 124
        · have d2 : decide (¬ y = 124) = false := by simp [c2]
          have hr2 := go (by simp [barM, c1, c2])
          obtain ⟨rv, w, h4, a1, a2, a3, a4, a5, a6, a7, R4, C4, z4⟩ := X.R.adv Hh (k := 2) (by simp)
          have a4' : aslice prog hh 22 rv (some (.int .i64 2)) none none = some w := a4
          have B4 : Okl ((x :: y :: u).drop 2) g1 := X.B.sb sb_drop (by simp; omega) (Int.le_refl _)
          have X4 := X.ch C4 (fun b e => .inl e) hrl R4 B4
          simp only [wk, wt, wl, ↓reduceIte, Nat.reduceEqDiff, Nat.reduceAdd, Nat.zero_add, not_false_eq_true, not_true_eq_false, t0, t2, t3, pt, pk, d1, d2, a1, a4', a7]
          refine (pieces_ok hk G R4 B4).ok ?_ ?_
          · intro p5 t5 g5 c5 h5 hp5 P5 R5 C5
            rw [hp5] at hr2
            simp only at hr2
            have hl5 := (pieM_len (grpM_GL k) _ hp5).1
            have B5 : Okl t5 g5 := B4.sb (pieM_sb (grpM_GS k) _ hp5) hl5.2.1 hl5.2.2
            have X5 := X4.ch C5 (fun b e => .inl e) hrl R5 B5
            have hz := X.z
            have hl2 : 2 ≤ (x :: y :: u).length := by simp
            obtain ⟨v6, h6, e6, X6, C6⟩ := X5.push hrl hpl (ReR.weak (fun b e => by show b < _; have e' : b < h.size + 1 := e; omega) p5 c5 P5) (by omega)
            simp only [List.length_drop, List.length_cons] at hl5 hn
            simp only [wk, wt, wl, ↓reduceIte, Nat.reduceEqDiff, Nat.reduceAdd, Nat.zero_add, not_false_eq_true, not_true_eq_false, t0, t2, t3, pt, bsRe (h := h5) P5.one1.1 P5.one1.2, e6]
            exact ⟨t5.length, by omega, v6, _, _, t5, g5, m, rfl, X6, rfl, by omega, by simp; omega, by simp, hr2.symm⟩
          · intro e h5 hp5 C5
            rw [hp5] at hr2
            simp only [wk, wt, wl, ↓reduceIte, Nat.reduceEqDiff, Nat.reduceAdd, Nat.zero_add, not_false_eq_true, not_true_eq_false]
            exact ⟨e, hr2, rfl, X4.C.then C5 fun b e => .inr e⟩
        · have d2 : decide (¬ y = 124) = true := by simp [c2]
          have hr2 := brk (by simp [barM, c2])
          rcases acc with _ | ⟨p1, _ | ⟨p2, acc⟩⟩
          · simp at ha1
          · have d7 : decide ((cs.length : Int) = 1) = true := by rw [hcl]; rfl
            obtain ⟨c1, hc1, P1⟩ := X.A.at (i := 0) rfl
            have IX : aindexAddr prog 24 v (.int .i64 0) = some (.pointer (some (eltA v 7 0))) := Rd.index X.O.1 underlying24 asz26 (q := .i64) (i := 0) (by omega) (by rw [hcl]; simp)
            have LX : aload prog hh 26 (eltA v 7 0) = some (reV c1) := RS.agg X.O.1 reC_len underlying26 rfl asz26 hc1
            obtain ⟨h9, e9, l9, P9, R9, C9⟩ := fin_put (h0 := h) (d := c1) Hh X.V (ReR.weak (fun b e => by show b < _; rcases e with e | e <;> omega) _ _ P1) X.R X.C (Nat.le_refl _) hpl hrl
            simp only [wk, wt, wl, ↓reduceIte, Nat.reduceEqDiff, Nat.reduceAdd, Nat.zero_add, not_false_eq_true, not_true_eq_false, t0, t2, t3, pt, pk, d1, d2, LNv, d7, IX, LX, e9, l9]
            exact ⟨_, _, _, _, hr2, rfl, P9, R9, C9⟩
          · have d7 : decide ((cs.length : Int) = 1) = false := by rw [hcl]; simp; omega
            have PP : ReR hh (LtV h.size h.size) (.mk 9 0 [] false 0 0 (p1 :: p2 :: acc)) { rc0 with k := 9, pv := v } := ReR.ps X.O.1 (fun b e f => by have := X.hv b e; rcases f with f | f <;> omega) (RePs.weak (fun b e => by show b < _; rcases e with e | e <;> omega) _ _ X.A)
            obtain ⟨h9, e9, l9, P9, R9, C9⟩ := fin_put (h0 := h) (d := { rc0 with k := 9, pv := v }) Hh X.V PP X.R X.C (Nat.le_refl _) hpl hrl
            simp only [wk, wt, wl, ↓reduceIte, Nat.reduceEqDiff, Nat.reduceAdd, Nat.zero_add, not_false_eq_true, not_true_eq_false, t0, t2, t3, pt, pk, d1, d2, LNv, d7, build_rep (Rd.one X.O.1), e9, l9]
            exact ⟨_, _, _, _, hr2, rfl, P9, R9, C9⟩
      · have pk : peekV (x :: y :: u) = .tuple #[.int .i32 x, .int .i32 0, .int .i64 1] := by simp [peekV, peekM, c1]
        have d1 : decide (¬ (1 : Int) = 2) = true := rfl
        have hr2 := brk (by simp [barM, c1])
        rcases acc with _ | ⟨p1, _ | ⟨p2, acc⟩⟩
        · simp at ha1
        · have d7 : decide ((cs.length : Int) = 1) = true := by rw [hcl]; rfl
          obtain ⟨c1, hc1, P1⟩ := X.A.at (i := 0) rfl
          have IX : aindexAddr prog 24 v (.int .i64 0) = some (.pointer (some (eltA v 7 0))) := Rd.index X.O.1 underlying24 asz26 (q := .i64) (i := 0) (by omega) (by rw [hcl]; simp)
          have LX : aload prog hh 26 (eltA v 7 0) = some (reV c1) := RS.agg X.O.1 reC_len underlying26 rfl asz26 hc1
          obtain ⟨h9, e9, l9, P9, R9, C9⟩ := fin_put (h0 := h) (d := c1) Hh X.V (ReR.weak (fun b e => by show b < _; rcases e with e | e <;> omega) _ _ P1) X.R X.C (Nat.le_refl _) hpl hrl
          simp only [wk, wt, wl, ↓reduceIte, Nat.reduceEqDiff, Nat.reduceAdd, Nat.zero_add, not_false_eq_true, not_true_eq_false, t0, t2, t3, pt, pk, d1, LNv, d7, IX, LX, e9, l9]
          exact ⟨_, _, _, _, hr2, rfl, P9, R9, C9⟩
        · have d7 : decide ((cs.length : Int) = 1) = false := by rw [hcl]; simp; omega
          have PP : ReR hh (LtV h.size h.size) (.mk 9 0 [] false 0 0 (p1 :: p2 :: acc)) { rc0 with k := 9, pv := v } := ReR.ps X.O.1 (fun b e f => by have := X.hv b e; rcases f with f | f <;> omega) (RePs.weak (fun b e => by show b < _; rcases e with e | e <;> omega) _ _ X.A)
          obtain ⟨h9, e9, l9, P9, R9, C9⟩ := fin_put (h0 := h) (d := { rc0 with k := 9, pv := v }) Hh X.V PP X.R X.C (Nat.le_refl _) hpl hrl
          simp only [wk, wt, wl, ↓reduceIte, Nat.reduceEqDiff, Nat.reduceAdd, Nat.zero_add, not_false_eq_true, not_true_eq_false, t0, t2, t3, pt, pk, d1, LNv, d7, build_rep (Rd.one X.O.1), e9, l9]
          exact ⟨_, _, _, _, hr2, rfl, P9, R9, C9⟩
  · intro e h2 hp C2
    rw [hp] at hres
    simp only [wk, wt, wl, ↓reduceIte, Nat.reduceEqDiff, Nat.reduceAdd, Nat.zero_add, not_false_eq_true, not_true_eq_false]
    exact ⟨e, hres, rfl, C1.then C2 fun b e => .inr e⟩
theorem alts_all : ∀ k, k ≤ 16 → AltC k
  | 0, hk => alts_step hk fun j e => by omega
  | k + 1, hk => alts_step hk fun j e => by
    have : j = k := by omega
    subst this
    exact alts_all j (by omega)
end Go.Proofs.Ytnnkcbkenofhmaa.Am
