/- Patterns, the program: contract of repeat, by a walk. -/
import Derived.Test.YtnnkcbkenofhmaaKe
set_option linter.unusedSimpArgs false
set_option linter.unusedVariables false
set_option maxHeartbeats 4000000
set_option maxRecDepth 20000
namespace Go.Proofs.Ytnnkcbkenofhmaa.Am
open Go Go.RowKit Go.Proofs.Try
/-- What is left is set. -/
theorem RD.setR {h : Heap} {rb pb : Nat} {l t : List Int} {g o : Int} (R : RD h rb pb l g o) (H : Wf h) {w : Value} (S : RdI prog h .i32 w t) (hw : ∀ b, blkOf w = some b → b = pb) :
    ∃ h1, storeV prog h 22 (.pointer (some ⟨rb, 0, none⟩)) w = some (undef, h1) ∧ RD h1 rb pb t g o ∧ Ch (Bx rb) h h1 ∧ h1.size = h.size := by
  obtain ⟨rv, V, _, hb, e1, e2⟩ := R
  obtain ⟨h1, q1, q2, q3, q4⟩ := V.store1 (P := prog) (t := 22) (v := w) (i := 0) H asz22 (by simp) (Rd.one S)
  simp only [List.set_cons_zero] at q2
  exact ⟨h1, q1, ⟨w, q2, Ch.rd q3 S fun b e f => e1 (by rw [← hw b e]; exact f), hw, e1, by omega⟩, q3, q4⟩
theorem RD.setG {h : Heap} {rb pb : Nat} {l : List Int} {g o : Int} (R : RD h rb pb l g o) (H : Wf h) (g' : Int) :
    ∃ h1, storeV prog h 3 (.pointer (some ⟨rb, 1, none⟩)) (.int .i64 g') = some (undef, h1) ∧ RD h1 rb pb l g' o ∧ Ch (Bx rb) h h1 ∧ h1.size = h.size := by
  obtain ⟨rv, V, S, hb, e1, e2⟩ := R
  obtain ⟨h1, q1, q2, q3, q4⟩ := V.store1 (P := prog) (t := 3) (v := .int .i64 g') (i := 1) H asz3 (by simp) rfl
  simp only [List.set_cons_zero, List.set_cons_succ] at q2
  exact ⟨h1, q1, ⟨rv, q2, Ch.rd q3 S fun b e f => e1 (by rw [← hb b e]; exact f), hb, e1, by omega⟩, q3, q4⟩
theorem RD.setO {h : Heap} {rb pb : Nat} {l : List Int} {g o : Int} (R : RD h rb pb l g o) (H : Wf h) (o' : Int) :
    ∃ h1, storeV prog h 3 (.pointer (some ⟨rb, 2, none⟩)) (.int .i64 o') = some (undef, h1) ∧ RD h1 rb pb l g o' ∧ Ch (Bx rb) h h1 ∧ h1.size = h.size := by
  obtain ⟨rv, V, S, hb, e1, e2⟩ := R
  obtain ⟨h1, q1, q2, q3, q4⟩ := V.store1 (P := prog) (t := 3) (v := .int .i64 o') (i := 2) H asz3 (by simp) rfl
  simp only [List.set_cons_zero, List.set_cons_succ] at q2
  exact ⟨h1, q1, ⟨rv, q2, Ch.rd q3 S fun b e f => e1 (by rw [← hb b e]; exact f), hb, e1, by omega⟩, q3, q4⟩
/-- The first k runes are taken. -/
theorem RD.adv {h : Heap} {rb pb : Nat} {l : List Int} {g o : Int} (R : RD h rb pb l g o) (H : Wf h) {k : Nat} (hk : k ≤ l.length) :
    ∃ rv w h1, aload prog h 22 ⟨rb, 0, none⟩ = some rv ∧ RdI prog h .i32 rv l ∧ (∀ b, blkOf rv = some b → b = pb) ∧ aslice prog h 22 rv (some (.int .i64 (k : Int))) none none = some w ∧ RdI prog h .i32 w (l.drop k) ∧ blkOf w = blkOf rv ∧
      storeV prog h 22 (.pointer (some ⟨rb, 0, none⟩)) w = some (undef, h1) ∧ RD h1 rb pb (l.drop k) g o ∧ Ch (Bx rb) h h1 ∧ h1.size = h.size := by
  have R0 := R
  obtain ⟨rv, V, S, hb, e1, e2⟩ := R
  obtain ⟨q1, q2, q3⟩ := S.lo hk
  obtain ⟨h1, z1, z2, z3, z4⟩ := R0.setR H q2 fun b e => hb b (by rw [← q3]; exact e)
  exact ⟨rv, _, h1, V.ld.1, S, hb, q1, q2, q3, z1, z2, z3, z4⟩
abbrev B2 (rb tb : Nat) : Nat → Prop := fun b => b = rb ∨ b = tb
/-- A part becomes the part of a repetition. -/
theorem star_put {h : Heap} {rb tb pb : Nat} {l : List Int} {g o lo hi : Int} {p : Pat} {c : RC} {D : Nat → Prop} (R : RD h rb pb l g o) (H : Wf h) (V : Var h tb (reC c)) (P : ReR h D p c) (hD : ∀ b, D b → b < h.size) (hDr : D rb) (hDt : D tb) (h1 : tb ≠ rb) (h2 : tb ≠ pb) :
    ∃ h3, storeV prog (h.new 26 (reC c)) 26 (.pointer (some ⟨tb, 0, none⟩)) (reV { rc0 with k := 10, lo := lo, hi := hi, pv := .slice (some ⟨h.size, 0, none⟩) 1 2 }) = some (undef, h3) ∧
      ∃ c', Var h3 tb (reC c') ∧ ReR h3 D (pStar lo hi p) c' ∧ RD h3 rb pb l g o ∧ Ch (B2 rb tb) h h3 := by
  have N := Keeps.new H 26 (reC c)
  have hlt := V.lt H
  have hlt2 := (R.lt H).1
  obtain ⟨h3, e3, V3, C3, z3⟩ := (Keeps.var H N V).put (Ch.wf N) (d := { rc0 with k := 10, lo := lo, hi := hi, pv := .slice (some ⟨h.size, 0, none⟩) 1 2 }) rfl rfl
  have C03 : Ch (B2 rb tb) h h3 := (N.mono (D' := B2 rb tb) fun _ e => e.elim).then C3 fun b e => .inr (.inr e)
  refine ⟨h3, e3, _, V3, ReR.ps (l := [c]) (Ch.rd C3 (Rd.new H asz26 rfl) fun b e f => ?_) (fun b e f => ?_) (RePs.one (ReR.ch C03 (fun b e => by rcases e with rfl | rfl <;> assumption) p c P)), (R.keeps H N).ch (Ch.wf N) C3 (fun e => h1 e.symm) (fun e => h2 e.symm), C03⟩
  · have e2 : h.size = b := by cases e; rfl
    omega
  · have e2 : h.size = b := by cases e; rfl
    have := hD b f
    omega
theorem repeat_ok {h : Heap} {rb tb pb : Nat} {l : List Int} {g o : Int} {p : Pat} {c : RC} {D : Nat → Prop} (R : RD h rb pb l g o) (V : Var h tb (reC c)) (P : ReR h D p c) (hD : ∀ b, D b → b < h.size) (hDr : D rb) (hDt : D tb) (htr : tb ≠ rb) (htp : tb ≠ pb) : ACallsX prog 34 #[pt rb, pt tb] h
    (fun y h' => (repM p l = .ok none ∧ y = .bool false ∧ h' = h) ∨ ∃ q t c', repM p l = .ok (some (q, t)) ∧ y = .bool true ∧ Var h' tb (reC c') ∧ ReR h' D q c' ∧ RD h' rb pb t g o ∧ Ch (B2 rb tb) h h')
    (fun v h' => ∃ e, repM p l = .error e ∧ v = flt e ∧ Ch (B2 rb tb) h h') := by
  refine acallsX_of_W' func34 rfl (by kernel_rfl) (by kernel_rfl) (by simp [ntmps34]) ?_
  intro H
  have KR := Keeps.refl H
  simp only [wk, wt, wl, ↓reduceIte, Nat.reduceEqDiff, Nat.reduceAdd, Nat.zero_add, not_false_eq_true, not_true_eq_false, pt]
  refine (peek_ok R).use_pure ?_
  obtain ⟨rv, RV, S, hb, _, _⟩ := id R
  obtain ⟨L0, _, _⟩ := RV.ld
  rcases l with _ | ⟨x, _ | ⟨y, t⟩⟩
  · have d0 : decide ((0 : Int) = 1) = false := rfl
    have d1 : decide ((0 : Int) < 2) = true := rfl
    simp only [wk, wt, wl, ↓reduceIte, Nat.reduceEqDiff, Nat.reduceAdd, Nat.zero_add, not_false_eq_true, not_true_eq_false, peekV, peekM, d0, d1]
    exact .inl ⟨rfl, trivial⟩
  · have d0 : decide ((1 : Int) = 1) = true := rfl
    have d1 : decide ((1 : Int) < 2) = true := rfl
    by_cases c1 : x = 42
    · have d2 := decide_eq_true c1
      subst c1
      obtain ⟨rv2, w, h1, a1, a2, a3, a4, a5, a6, a7, a8, a9, a10⟩ := R.adv H (k := 1) (by simp)
      rw [L0] at a1; cases a1
      have a4' : aslice prog h 22 rv (some (.int .i64 1)) none none = some w := a4
      have V1 := Ch.var H a9 V htr
      have P1 := ReR.ch a9 (fun b e => by rw [show b = rb from e]; exact hDr) p c P
      have hD1 : ∀ b, D b → b < h1.size := fun b e => by rw [a10]; exact hD b e
      obtain ⟨h5, e5, c', V5, P5, R5, C5⟩ := star_put (lo := 0) (hi := -1) a8 (Ch.wf a9) V1 P1 hD1 hDr hDt htr htp
      have e5' : storeV prog (h1.new 26 (reC c)) 26 (.pointer (some ⟨tb, 0, none⟩)) (reV { rc0 with k := 10, hi := -1, pv := .slice (some ⟨h1.size, 0, none⟩) 1 2 }) = some (undef, h5) := e5
      simp only [wk, wt, wl, ↓reduceIte, Nat.reduceEqDiff, Nat.reduceAdd, Nat.zero_add, not_false_eq_true, not_true_eq_false, peekV, peekM, d0, d2, L0, a4', a7, V1.re, bsRe (h := h1) P.one1.1 P.one1.2, build_rehp (one_slice), e5']
      exact .inr ⟨_, _, c', rfl, V5, P5, R5, (a9.mono fun b e => .inl e).then C5 fun b e => .inr e⟩
    · have d2 := decide_eq_false c1
      simp only [wk, wt, wl, ↓reduceIte, Nat.reduceEqDiff, Nat.reduceAdd, Nat.zero_add, not_false_eq_true, not_true_eq_false, peekV, peekM, d0, d2, d1]
      exact .inl ⟨by simp [repM, peekM, c1], trivial⟩
  · by_cases c0 : x = 92
    · subst c0
      have pk : peekV (92 :: y :: t) = .tuple #[.int .i32 92, .int .i32 y, .int .i64 2] := rfl
      have d0 : decide ((2 : Int) = 1) = false := rfl
      have d1 : decide ((2 : Int) < 2) = false := rfl
      by_cases c1 : y = 123
      · have d2 : decide (¬ y = 123) = false := by simp [c1]
        subst c1
        have SL : aslice prog h 22 rv (some (.int .i64 2)) none none = some _ := (S.lo (k := 2) (by simp)).1
        have S2 : RdI prog h .i32 (sliceV rv 1 2 (92 :: 123 :: t).length) t := (S.lo (k := 2) (by simp)).2.1
        have B2 : blkOf (sliceV rv 1 2 (92 :: 123 :: t).length) = blkOf rv := (S.lo (k := 2) (by simp)).2.2
        simp only [wk, wt, wl, ↓reduceIte, Nat.reduceEqDiff, Nat.reduceAdd, Nat.zero_add, not_false_eq_true, not_true_eq_false, pk, d0, d1, d2, L0, SL]
        refine (digits_ok S2).use ?_
        rintro _ _ ⟨w, rfl, Sw, hw, hh⟩
        obtain rfl := hh.symm
        have hwb : ∀ b, blkOf w = some b → b = pb := fun b e => hb b (by rw [← B2, ← hw]; exact e)
        obtain ⟨lo, r1, ok1, hd1⟩ : ∃ lo r1 ok1, digM 0 false t = (lo, r1, ok1) := ⟨_, _, _, rfl⟩
        rw [hd1] at Sw
        simp only at Sw
        rw [hd1]
        cases ok1 with
        | false =>
          simp only [wk, wt, wl, ↓reduceIte, Nat.reduceEqDiff, Nat.reduceAdd, Nat.zero_add, not_false_eq_true, not_true_eq_false, pt, build_fault, conc_fault]
          exact ⟨11, by simp [repM, peekM, timesM, hd1], rfl, KR.mono fun _ e => e.elim⟩
        | true =>
          have hT0 : timesM t = (if 100 < kmax lo (hiM lo r1).1 ∨ (0 ≤ (hiM lo r1).1 ∧ (hiM lo r1).1 < lo) then .error 11 else endM lo (hiM lo r1).1 (hiM lo r1).2) := by
            unfold timesM
            rw [hd1]
            simp only [Bool.true_eq_false, if_false]
          rcases r1 with _ | ⟨z, r1⟩
          · have LW := Sw.ln (n := 0) rfl
            have d3 : decide ((0 : Int) < 0) = false := rfl
            simp only [wk, wt, wl, ↓reduceIte, Nat.reduceEqDiff, Nat.reduceAdd, Nat.zero_add, not_false_eq_true, not_true_eq_false, pt, LW, d3]
            have hgT : timesM t = (if 100 < kmax lo lo ∨ (0 ≤ lo ∧ lo < lo) then .error 11 else endM lo lo ([] : List Int)) := hT0
            have rmT : repM p (92 :: 123 :: t) = (match timesM t with | .error e => .error e | .ok (lo, hi, t) => .ok (some (pStar lo hi p, t))) := rfl
            by_cases c5 : 100 < kmax lo lo
            · have d5 := decide_eq_true c5
              simp only [wk, wt, wl, ↓reduceIte, Nat.reduceEqDiff, Nat.reduceAdd, Nat.zero_add, not_false_eq_true, not_true_eq_false, pt, mxV, d5, build_fault, conc_fault]
              exact ⟨11, by rw [rmT, hgT, if_pos (.inl c5)], rfl, KR.mono fun _ e => e.elim⟩
            · have d5 := decide_eq_false c5
              by_cases c6 : 0 ≤ lo ∧ lo < lo
              · have d6 := decide_eq_true c6.1
                have d7 := decide_eq_true c6.2
                simp only [wk, wt, wl, ↓reduceIte, Nat.reduceEqDiff, Nat.reduceAdd, Nat.zero_add, not_false_eq_true, not_true_eq_false, pt, mxV, d5, d6, d7, build_fault, conc_fault]
                exact ⟨11, by rw [rmT, hgT, if_pos (.inr c6)], rfl, KR.mono fun _ e => e.elim⟩
              · rw [if_neg (fun e => e.elim c5 c6)] at hgT
                have hcond : ∀ {A : Prop}, ((0 ≤ lo → decide (lo < lo) = false → A) ∧ (¬ 0 ≤ lo → A)) → A := fun {A} q => by
                  by_cases e : 0 ≤ lo
                  · exact q.1 e (decide_eq_false fun f => c6 ⟨e, f⟩)
                  · exact q.2 e
                refine hcond ⟨fun c7 d7 => ?_, fun c7 => ?_⟩
                · have d6 := decide_eq_true c7
                  generalize hrr : ([] : List Int) = rr at hgT
                  have SW : RdI prog h .i32 w rr := by rw [← hrr]; exact Sw
                  rcases rr with _ | ⟨x1, _ | ⟨x2, r2⟩⟩
                  · have LW := SW.ln (n := 0) rfl
                    have d8 : decide ((0 : Int) < 2) = true := rfl
                    simp only [wk, wt, wl, ↓reduceIte, Nat.reduceEqDiff, Nat.reduceAdd, Nat.zero_add, not_false_eq_true, not_true_eq_false, pt, mxV, d5, d6, d7, LW, d8, build_fault, conc_fault]
                    exact ⟨10, by rw [rmT, hgT]; simp [endM], rfl, KR.mono fun _ e => e.elim⟩
                  · have LW := SW.ln (n := 1) rfl
                    have d8 : decide ((1 : Int) < 2) = true := rfl
                    simp only [wk, wt, wl, ↓reduceIte, Nat.reduceEqDiff, Nat.reduceAdd, Nat.zero_add, not_false_eq_true, not_true_eq_false, pt, mxV, d5, d6, d7, LW, d8, build_fault, conc_fault]
                    exact ⟨10, by rw [rmT, hgT]; simp [endM], rfl, KR.mono fun _ e => e.elim⟩
                  · have LW := SW.ln (n := (r2.length : Int) + 2) (by simp; omega)
                    have d8 : decide ((r2.length : Int) + 2 < 2) = false := decide_eq_false (by omega)
                    have I1 : aindexAddr prog 22 w (.int .i64 0) = _ := (SW.ix (i := 0) rfl).1
                    have L1 := (SW.ix (i := 0) rfl).2
                    have I2 : aindexAddr prog 22 w (.int .i64 1) = _ := (SW.ix (i := 1) rfl).1
                    have L2 := (SW.ix (i := 1) rfl).2
                    by_cases c8 : x1 = 92
                    · have d9 : decide (¬ x1 = 92) = false := by simp [c8]
                      by_cases c9 : x2 = 125
                      · have d10 : decide (¬ x2 = 125) = false := by simp [c9]
                        subst c8 c9
                        have SL : aslice prog h 22 w (some (.int .i64 2)) none none = some _ := (SW.lo (k := 2) (by simp)).1
                        have S2 := (SW.lo (k := 2) (by simp)).2
                        obtain ⟨h4, e4, R4, C4, z4⟩ := R.setR H S2.1 (fun b e => hwb b (by rw [← S2.2]; exact e))
                        have V4 := Ch.var H C4 V htr
                        have P4 := ReR.ch C4 (fun b e => by rw [show b = rb from e]; exact hDr) p c P
                        have hD4 : ∀ b, D b → b < h4.size := fun b e => by rw [z4]; exact hD b e
                        obtain ⟨h5, e5, c', V5, P5, R5, C5⟩ := star_put (lo := lo) (hi := lo) R4 (Ch.wf C4) V4 P4 hD4 hDr hDt htr htp
                        simp only [wk, wt, wl, ↓reduceIte, Nat.reduceEqDiff, Nat.reduceAdd, Nat.zero_add, not_false_eq_true, not_true_eq_false, pt, mxV, d5, d6, d7, LW, d8, I1, L1, I2, L2, d9, d10, SL, e4, V4.re, bsRe (h := h4) P.one1.1 P.one1.2, build_relhp (one_slice), e5]
                        exact .inr ⟨_, _, c', by rw [rmT, hgT]; rfl, V5, P5, R5, (C4.mono fun b e => .inl e).then C5 fun b e => .inr e⟩
                      · have d10 : decide (¬ x2 = 125) = true := by simp [c9]
                        simp only [wk, wt, wl, ↓reduceIte, Nat.reduceEqDiff, Nat.reduceAdd, Nat.zero_add, not_false_eq_true, not_true_eq_false, pt, mxV, d5, d6, d7, LW, d8, I1, L1, I2, L2, d9, d10, build_fault, conc_fault]
                        exact ⟨10, by rw [rmT, hgT]; simp [endM, c9], rfl, KR.mono fun _ e => e.elim⟩
                    · have d9 : decide (¬ x1 = 92) = true := by simp [c8]
                      simp only [wk, wt, wl, ↓reduceIte, Nat.reduceEqDiff, Nat.reduceAdd, Nat.zero_add, not_false_eq_true, not_true_eq_false, pt, mxV, d5, d6, d7, LW, d8, I1, L1, d9, build_fault, conc_fault]
                      exact ⟨10, by rw [rmT, hgT]; simp [endM, c8], rfl, KR.mono fun _ e => e.elim⟩
                · have d6 := decide_eq_false c7
                  generalize hrr : ([] : List Int) = rr at hgT
                  have SW : RdI prog h .i32 w rr := by rw [← hrr]; exact Sw
                  rcases rr with _ | ⟨x1, _ | ⟨x2, r2⟩⟩
                  · have LW := SW.ln (n := 0) rfl
                    have d8 : decide ((0 : Int) < 2) = true := rfl
                    simp only [wk, wt, wl, ↓reduceIte, Nat.reduceEqDiff, Nat.reduceAdd, Nat.zero_add, not_false_eq_true, not_true_eq_false, pt, mxV, d5, d6, LW, d8, build_fault, conc_fault]
                    exact ⟨10, by rw [rmT, hgT]; simp [endM], rfl, KR.mono fun _ e => e.elim⟩
                  · have LW := SW.ln (n := 1) rfl
                    have d8 : decide ((1 : Int) < 2) = true := rfl
                    simp only [wk, wt, wl, ↓reduceIte, Nat.reduceEqDiff, Nat.reduceAdd, Nat.zero_add, not_false_eq_true, not_true_eq_false, pt, mxV, d5, d6, LW, d8, build_fault, conc_fault]
                    exact ⟨10, by rw [rmT, hgT]; simp [endM], rfl, KR.mono fun _ e => e.elim⟩
                  · have LW := SW.ln (n := (r2.length : Int) + 2) (by simp; omega)
                    have d8 : decide ((r2.length : Int) + 2 < 2) = false := decide_eq_false (by omega)
                    have I1 : aindexAddr prog 22 w (.int .i64 0) = _ := (SW.ix (i := 0) rfl).1
                    have L1 := (SW.ix (i := 0) rfl).2
                    have I2 : aindexAddr prog 22 w (.int .i64 1) = _ := (SW.ix (i := 1) rfl).1
                    have L2 := (SW.ix (i := 1) rfl).2
                    by_cases c8 : x1 = 92
                    · have d9 : decide (¬ x1 = 92) = false := by simp [c8]
                      by_cases c9 : x2 = 125
                      · have d10 : decide (¬ x2 = 125) = false := by simp [c9]
                        subst c8 c9
                        have SL : aslice prog h 22 w (some (.int .i64 2)) none none = some _ := (SW.lo (k := 2) (by simp)).1
                        have S2 := (SW.lo (k := 2) (by simp)).2
                        obtain ⟨h4, e4, R4, C4, z4⟩ := R.setR H S2.1 (fun b e => hwb b (by rw [← S2.2]; exact e))
                        have V4 := Ch.var H C4 V htr
                        have P4 := ReR.ch C4 (fun b e => by rw [show b = rb from e]; exact hDr) p c P
                        have hD4 : ∀ b, D b → b < h4.size := fun b e => by rw [z4]; exact hD b e
                        obtain ⟨h5, e5, c', V5, P5, R5, C5⟩ := star_put (lo := lo) (hi := lo) R4 (Ch.wf C4) V4 P4 hD4 hDr hDt htr htp
                        simp only [wk, wt, wl, ↓reduceIte, Nat.reduceEqDiff, Nat.reduceAdd, Nat.zero_add, not_false_eq_true, not_true_eq_false, pt, mxV, d5, d6, LW, d8, I1, L1, I2, L2, d9, d10, SL, e4, V4.re, bsRe (h := h4) P.one1.1 P.one1.2, build_relhp (one_slice), e5]
                        exact .inr ⟨_, _, c', by rw [rmT, hgT]; rfl, V5, P5, R5, (C4.mono fun b e => .inl e).then C5 fun b e => .inr e⟩
                      · have d10 : decide (¬ x2 = 125) = true := by simp [c9]
                        simp only [wk, wt, wl, ↓reduceIte, Nat.reduceEqDiff, Nat.reduceAdd, Nat.zero_add, not_false_eq_true, not_true_eq_false, pt, mxV, d5, d6, LW, d8, I1, L1, I2, L2, d9, d10, build_fault, conc_fault]
                        exact ⟨10, by rw [rmT, hgT]; simp [endM, c9], rfl, KR.mono fun _ e => e.elim⟩
                    · have d9 : decide (¬ x1 = 92) = true := by simp [c8]
                      simp only [wk, wt, wl, ↓reduceIte, Nat.reduceEqDiff, Nat.reduceAdd, Nat.zero_add, not_false_eq_true, not_true_eq_false, pt, mxV, d5, d6, LW, d8, I1, L1, d9, build_fault, conc_fault]
                      exact ⟨10, by rw [rmT, hgT]; simp [endM, c8], rfl, KR.mono fun _ e => e.elim⟩
          · have LW := Sw.ln (n := (r1.length : Int) + 1) (by simp)
            have d3 : decide (0 < (r1.length : Int) + 1) = true := decide_eq_true (by omega)
            have IZ : aindexAddr prog 22 w (.int .i64 0) = _ := (Sw.ix (i := 0) rfl).1
            have LZ := (Sw.ix (i := 0) rfl).2
            by_cases c3 : z = 44
            · have d4 := decide_eq_true c3
              subst c3
              have SL2 : aslice prog h 22 w (some (.int .i64 1)) none none = some _ := (Sw.lo (k := 1) (by simp)).1
              have S3 : RdI prog h .i32 (sliceV w 1 1 (44 :: r1).length) r1 := (Sw.lo (k := 1) (by simp)).2.1
              have B3 : blkOf (sliceV w 1 1 (44 :: r1).length) = blkOf w := (Sw.lo (k := 1) (by simp)).2.2
              simp only [wk, wt, wl, ↓reduceIte, Nat.reduceEqDiff, Nat.reduceAdd, Nat.zero_add, not_false_eq_true, not_true_eq_false, pt, LW, d3, IZ, LZ, d4, SL2]
              refine (digits_ok S3).use ?_
              rintro _ _ ⟨w3, rfl, Sw3, hw3, hh⟩
              obtain rfl := hh.symm
              have hwb3 : ∀ b, blkOf w3 = some b → b = pb := fun b e => hwb b (by rw [← B3, ← hw3]; exact e)
              have hh1 : hiM lo (44 :: r1) = (if (digM 0 false r1).2.2 = true then (digM 0 false r1).1 else -1, (digM 0 false r1).2.1) := rfl
              obtain ⟨hi, r3, ok3, hd3⟩ : ∃ hi r3 ok3, digM 0 false r1 = (hi, r3, ok3) := ⟨_, _, _, rfl⟩
              rw [hd3] at Sw3 hh1
              simp only at Sw3 hh1
              rw [hd3]
              cases ok3 with
              | false =>
                simp only [Bool.false_eq_true, if_false] at hh1
                rw [hh1] at hT0
                simp only [wk, wt, wl, ↓reduceIte, Nat.reduceEqDiff, Nat.reduceAdd, Nat.zero_add, not_false_eq_true, not_true_eq_false, pt]
                have hgT : timesM t = (if 100 < kmax lo (-1) ∨ (0 ≤ (-1) ∧ (-1) < lo) then .error 11 else endM lo (-1) r3) := hT0
                have rmT : repM p (92 :: 123 :: t) = (match timesM t with | .error e => .error e | .ok (lo, hi, t) => .ok (some (pStar lo hi p, t))) := rfl
                by_cases c5 : 100 < kmax lo (-1)
                · have d5 := decide_eq_true c5
                  simp only [wk, wt, wl, ↓reduceIte, Nat.reduceEqDiff, Nat.reduceAdd, Nat.zero_add, not_false_eq_true, not_true_eq_false, pt, mxV, d5, build_fault, conc_fault]
                  exact ⟨11, by rw [rmT, hgT, if_pos (.inl c5)], rfl, KR.mono fun _ e => e.elim⟩
                · have d5 := decide_eq_false c5
                  by_cases c6 : 0 ≤ (-1) ∧ (-1) < lo
                  · have d6 := decide_eq_true c6.1
                    have d7 := decide_eq_true c6.2
                    simp only [wk, wt, wl, ↓reduceIte, Nat.reduceEqDiff, Nat.reduceAdd, Nat.zero_add, not_false_eq_true, not_true_eq_false, pt, mxV, d5, d6, d7, build_fault, conc_fault]
                    exact ⟨11, by rw [rmT, hgT, if_pos (.inr c6)], rfl, KR.mono fun _ e => e.elim⟩
                  · rw [if_neg (fun e => e.elim c5 c6)] at hgT
                    have hcond : ∀ {A : Prop}, ((0 ≤ (-1) → decide ((-1) < lo) = false → A) ∧ (¬ 0 ≤ (-1) → A)) → A := fun {A} q => by
                      by_cases e : 0 ≤ (-1)
                      · exact q.1 e (decide_eq_false fun f => c6 ⟨e, f⟩)
                      · exact q.2 e
                    refine hcond ⟨fun c7 d7 => ?_, fun c7 => ?_⟩
                    · have d6 := decide_eq_true c7
                      generalize hrr : r3 = rr at hgT
                      have SW : RdI prog h .i32 w3 rr := by rw [← hrr]; exact Sw3
                      rcases rr with _ | ⟨x1, _ | ⟨x2, r2⟩⟩
                      · have LW := SW.ln (n := 0) rfl
                        have d8 : decide ((0 : Int) < 2) = true := rfl
                        simp only [wk, wt, wl, ↓reduceIte, Nat.reduceEqDiff, Nat.reduceAdd, Nat.zero_add, not_false_eq_true, not_true_eq_false, pt, mxV, d5, d6, d7, LW, d8, build_fault, conc_fault]
                        exact ⟨10, by rw [rmT, hgT]; simp [endM], rfl, KR.mono fun _ e => e.elim⟩
                      · have LW := SW.ln (n := 1) rfl
                        have d8 : decide ((1 : Int) < 2) = true := rfl
                        simp only [wk, wt, wl, ↓reduceIte, Nat.reduceEqDiff, Nat.reduceAdd, Nat.zero_add, not_false_eq_true, not_true_eq_false, pt, mxV, d5, d6, d7, LW, d8, build_fault, conc_fault]
                        exact ⟨10, by rw [rmT, hgT]; simp [endM], rfl, KR.mono fun _ e => e.elim⟩
                      · have LW := SW.ln (n := (r2.length : Int) + 2) (by simp; omega)
                        have d8 : decide ((r2.length : Int) + 2 < 2) = false := decide_eq_false (by omega)
                        have I1 : aindexAddr prog 22 w3 (.int .i64 0) = _ := (SW.ix (i := 0) rfl).1
                        have L1 := (SW.ix (i := 0) rfl).2
                        have I2 : aindexAddr prog 22 w3 (.int .i64 1) = _ := (SW.ix (i := 1) rfl).1
                        have L2 := (SW.ix (i := 1) rfl).2
                        by_cases c8 : x1 = 92
                        · have d9 : decide (¬ x1 = 92) = false := by simp [c8]
                          by_cases c9 : x2 = 125
                          · have d10 : decide (¬ x2 = 125) = false := by simp [c9]
                            subst c8 c9
                            have SL : aslice prog h 22 w3 (some (.int .i64 2)) none none = some _ := (SW.lo (k := 2) (by simp)).1
                            have S2 := (SW.lo (k := 2) (by simp)).2
                            obtain ⟨h4, e4, R4, C4, z4⟩ := R.setR H S2.1 (fun b e => hwb3 b (by rw [← S2.2]; exact e))
                            have V4 := Ch.var H C4 V htr
                            have P4 := ReR.ch C4 (fun b e => by rw [show b = rb from e]; exact hDr) p c P
                            have hD4 : ∀ b, D b → b < h4.size := fun b e => by rw [z4]; exact hD b e
                            obtain ⟨h5, e5, c', V5, P5, R5, C5⟩ := star_put (lo := lo) (hi := (-1)) R4 (Ch.wf C4) V4 P4 hD4 hDr hDt htr htp
                            simp only [wk, wt, wl, ↓reduceIte, Nat.reduceEqDiff, Nat.reduceAdd, Nat.zero_add, not_false_eq_true, not_true_eq_false, pt, mxV, d5, d6, d7, LW, d8, I1, L1, I2, L2, d9, d10, SL, e4, V4.re, bsRe (h := h4) P.one1.1 P.one1.2, build_relhp (one_slice), e5]
                            exact .inr ⟨_, _, c', by rw [rmT, hgT]; rfl, V5, P5, R5, (C4.mono fun b e => .inl e).then C5 fun b e => .inr e⟩
                          · have d10 : decide (¬ x2 = 125) = true := by simp [c9]
                            simp only [wk, wt, wl, ↓reduceIte, Nat.reduceEqDiff, Nat.reduceAdd, Nat.zero_add, not_false_eq_true, not_true_eq_false, pt, mxV, d5, d6, d7, LW, d8, I1, L1, I2, L2, d9, d10, build_fault, conc_fault]
                            exact ⟨10, by rw [rmT, hgT]; simp [endM, c9], rfl, KR.mono fun _ e => e.elim⟩
                        · have d9 : decide (¬ x1 = 92) = true := by simp [c8]
                          simp only [wk, wt, wl, ↓reduceIte, Nat.reduceEqDiff, Nat.reduceAdd, Nat.zero_add, not_false_eq_true, not_true_eq_false, pt, mxV, d5, d6, d7, LW, d8, I1, L1, d9, build_fault, conc_fault]
                          exact ⟨10, by rw [rmT, hgT]; simp [endM, c8], rfl, KR.mono fun _ e => e.elim⟩
                    · have d6 := decide_eq_false c7
                      generalize hrr : r3 = rr at hgT
                      have SW : RdI prog h .i32 w3 rr := by rw [← hrr]; exact Sw3
                      rcases rr with _ | ⟨x1, _ | ⟨x2, r2⟩⟩
                      · have LW := SW.ln (n := 0) rfl
                        have d8 : decide ((0 : Int) < 2) = true := rfl
                        simp only [wk, wt, wl, ↓reduceIte, Nat.reduceEqDiff, Nat.reduceAdd, Nat.zero_add, not_false_eq_true, not_true_eq_false, pt, mxV, d5, d6, LW, d8, build_fault, conc_fault]
                        exact ⟨10, by rw [rmT, hgT]; simp [endM], rfl, KR.mono fun _ e => e.elim⟩
                      · have LW := SW.ln (n := 1) rfl
                        have d8 : decide ((1 : Int) < 2) = true := rfl
                        simp only [wk, wt, wl, ↓reduceIte, Nat.reduceEqDiff, Nat.reduceAdd, Nat.zero_add, not_false_eq_true, not_true_eq_false, pt, mxV, d5, d6, LW, d8, build_fault, conc_fault]
                        exact ⟨10, by rw [rmT, hgT]; simp [endM], rfl, KR.mono fun _ e => e.elim⟩
                      · have LW := SW.ln (n := (r2.length : Int) + 2) (by simp; omega)
                        have d8 : decide ((r2.length : Int) + 2 < 2) = false := decide_eq_false (by omega)
                        have I1 : aindexAddr prog 22 w3 (.int .i64 0) = _ := (SW.ix (i := 0) rfl).1
                        have L1 := (SW.ix (i := 0) rfl).2
                        have I2 : aindexAddr prog 22 w3 (.int .i64 1) = _ := (SW.ix (i := 1) rfl).1
                        have L2 := (SW.ix (i := 1) rfl).2
                        by_cases c8 : x1 = 92
                        · have d9 : decide (¬ x1 = 92) = false := by simp [c8]
                          by_cases c9 : x2 = 125
                          · have d10 : decide (¬ x2 = 125) = false := by simp [c9]
                            subst c8 c9
                            have SL : aslice prog h 22 w3 (some (.int .i64 2)) none none = some _ := (SW.lo (k := 2) (by simp)).1
                            have S2 := (SW.lo (k := 2) (by simp)).2
                            obtain ⟨h4, e4, R4, C4, z4⟩ := R.setR H S2.1 (fun b e => hwb3 b (by rw [← S2.2]; exact e))
                            have V4 := Ch.var H C4 V htr
                            have P4 := ReR.ch C4 (fun b e => by rw [show b = rb from e]; exact hDr) p c P
                            have hD4 : ∀ b, D b → b < h4.size := fun b e => by rw [z4]; exact hD b e
                            obtain ⟨h5, e5, c', V5, P5, R5, C5⟩ := star_put (lo := lo) (hi := (-1)) R4 (Ch.wf C4) V4 P4 hD4 hDr hDt htr htp
                            simp only [wk, wt, wl, ↓reduceIte, Nat.reduceEqDiff, Nat.reduceAdd, Nat.zero_add, not_false_eq_true, not_true_eq_false, pt, mxV, d5, d6, LW, d8, I1, L1, I2, L2, d9, d10, SL, e4, V4.re, bsRe (h := h4) P.one1.1 P.one1.2, build_relhp (one_slice), e5]
                            exact .inr ⟨_, _, c', by rw [rmT, hgT]; rfl, V5, P5, R5, (C4.mono fun b e => .inl e).then C5 fun b e => .inr e⟩
                          · have d10 : decide (¬ x2 = 125) = true := by simp [c9]
                            simp only [wk, wt, wl, ↓reduceIte, Nat.reduceEqDiff, Nat.reduceAdd, Nat.zero_add, not_false_eq_true, not_true_eq_false, pt, mxV, d5, d6, LW, d8, I1, L1, I2, L2, d9, d10, build_fault, conc_fault]
                            exact ⟨10, by rw [rmT, hgT]; simp [endM, c9], rfl, KR.mono fun _ e => e.elim⟩
                        · have d9 : decide (¬ x1 = 92) = true := by simp [c8]
                          simp only [wk, wt, wl, ↓reduceIte, Nat.reduceEqDiff, Nat.reduceAdd, Nat.zero_add, not_false_eq_true, not_true_eq_false, pt, mxV, d5, d6, LW, d8, I1, L1, d9, build_fault, conc_fault]
                          exact ⟨10, by rw [rmT, hgT]; simp [endM, c8], rfl, KR.mono fun _ e => e.elim⟩
              | true =>
                simp only [if_true] at hh1
                rw [hh1] at hT0
                simp only [wk, wt, wl, ↓reduceIte, Nat.reduceEqDiff, Nat.reduceAdd, Nat.zero_add, not_false_eq_true, not_true_eq_false, pt]
                have hgT : timesM t = (if 100 < kmax lo hi ∨ (0 ≤ hi ∧ hi < lo) then .error 11 else endM lo hi r3) := hT0
                have rmT : repM p (92 :: 123 :: t) = (match timesM t with | .error e => .error e | .ok (lo, hi, t) => .ok (some (pStar lo hi p, t))) := rfl
                by_cases c5 : 100 < kmax lo hi
                · have d5 := decide_eq_true c5
                  simp only [wk, wt, wl, ↓reduceIte, Nat.reduceEqDiff, Nat.reduceAdd, Nat.zero_add, not_false_eq_true, not_true_eq_false, pt, mxV, d5, build_fault, conc_fault]
                  exact ⟨11, by rw [rmT, hgT, if_pos (.inl c5)], rfl, KR.mono fun _ e => e.elim⟩
                · have d5 := decide_eq_false c5
                  by_cases c6 : 0 ≤ hi ∧ hi < lo
                  · have d6 := decide_eq_true c6.1
                    have d7 := decide_eq_true c6.2
                    simp only [wk, wt, wl, ↓reduceIte, Nat.reduceEqDiff, Nat.reduceAdd, Nat.zero_add, not_false_eq_true, not_true_eq_false, pt, mxV, d5, d6, d7, build_fault, conc_fault]
                    exact ⟨11, by rw [rmT, hgT, if_pos (.inr c6)], rfl, KR.mono fun _ e => e.elim⟩
                  · rw [if_neg (fun e => e.elim c5 c6)] at hgT
                    have hcond : ∀ {A : Prop}, ((0 ≤ hi → decide (hi < lo) = false → A) ∧ (¬ 0 ≤ hi → A)) → A := fun {A} q => by
                      by_cases e : 0 ≤ hi
                      · exact q.1 e (decide_eq_false fun f => c6 ⟨e, f⟩)
                      · exact q.2 e
                    refine hcond ⟨fun c7 d7 => ?_, fun c7 => ?_⟩
                    · have d6 := decide_eq_true c7
                      generalize hrr : r3 = rr at hgT
                      have SW : RdI prog h .i32 w3 rr := by rw [← hrr]; exact Sw3
                      rcases rr with _ | ⟨x1, _ | ⟨x2, r2⟩⟩
                      · have LW := SW.ln (n := 0) rfl
                        have d8 : decide ((0 : Int) < 2) = true := rfl
                        simp only [wk, wt, wl, ↓reduceIte, Nat.reduceEqDiff, Nat.reduceAdd, Nat.zero_add, not_false_eq_true, not_true_eq_false, pt, mxV, d5, d6, d7, LW, d8, build_fault, conc_fault]
                        exact ⟨10, by rw [rmT, hgT]; simp [endM], rfl, KR.mono fun _ e => e.elim⟩
                      · have LW := SW.ln (n := 1) rfl
                        have d8 : decide ((1 : Int) < 2) = true := rfl
                        simp only [wk, wt, wl, ↓reduceIte, Nat.reduceEqDiff, Nat.reduceAdd, Nat.zero_add, not_false_eq_true, not_true_eq_false, pt, mxV, d5, d6, d7, LW, d8, build_fault, conc_fault]
                        exact ⟨10, by rw [rmT, hgT]; simp [endM], rfl, KR.mono fun _ e => e.elim⟩
                      · have LW := SW.ln (n := (r2.length : Int) + 2) (by simp; omega)
                        have d8 : decide ((r2.length : Int) + 2 < 2) = false := decide_eq_false (by omega)
                        have I1 : aindexAddr prog 22 w3 (.int .i64 0) = _ := (SW.ix (i := 0) rfl).1
                        have L1 := (SW.ix (i := 0) rfl).2
                        have I2 : aindexAddr prog 22 w3 (.int .i64 1) = _ := (SW.ix (i := 1) rfl).1
                        have L2 := (SW.ix (i := 1) rfl).2
                        by_cases c8 : x1 = 92
                        · have d9 : decide (¬ x1 = 92) = false := by simp [c8]
                          by_cases c9 : x2 = 125
                          · have d10 : decide (¬ x2 = 125) = false := by simp [c9]
                            subst c8 c9
                            have SL : aslice prog h 22 w3 (some (.int .i64 2)) none none = some _ := (SW.lo (k := 2) (by simp)).1
                            have S2 := (SW.lo (k := 2) (by simp)).2
                            obtain ⟨h4, e4, R4, C4, z4⟩ := R.setR H S2.1 (fun b e => hwb3 b (by rw [← S2.2]; exact e))
                            have V4 := Ch.var H C4 V htr
                            have P4 := ReR.ch C4 (fun b e => by rw [show b = rb from e]; exact hDr) p c P
                            have hD4 : ∀ b, D b → b < h4.size := fun b e => by rw [z4]; exact hD b e
                            obtain ⟨h5, e5, c', V5, P5, R5, C5⟩ := star_put (lo := lo) (hi := hi) R4 (Ch.wf C4) V4 P4 hD4 hDr hDt htr htp
                            simp only [wk, wt, wl, ↓reduceIte, Nat.reduceEqDiff, Nat.reduceAdd, Nat.zero_add, not_false_eq_true, not_true_eq_false, pt, mxV, d5, d6, d7, LW, d8, I1, L1, I2, L2, d9, d10, SL, e4, V4.re, bsRe (h := h4) P.one1.1 P.one1.2, build_relhp (one_slice), e5]
                            exact .inr ⟨_, _, c', by rw [rmT, hgT]; rfl, V5, P5, R5, (C4.mono fun b e => .inl e).then C5 fun b e => .inr e⟩
                          · have d10 : decide (¬ x2 = 125) = true := by simp [c9]
                            simp only [wk, wt, wl, ↓reduceIte, Nat.reduceEqDiff, Nat.reduceAdd, Nat.zero_add, not_false_eq_true, not_true_eq_false, pt, mxV, d5, d6, d7, LW, d8, I1, L1, I2, L2, d9, d10, build_fault, conc_fault]
                            exact ⟨10, by rw [rmT, hgT]; simp [endM, c9], rfl, KR.mono fun _ e => e.elim⟩
                        · have d9 : decide (¬ x1 = 92) = true := by simp [c8]
                          simp only [wk, wt, wl, ↓reduceIte, Nat.reduceEqDiff, Nat.reduceAdd, Nat.zero_add, not_false_eq_true, not_true_eq_false, pt, mxV, d5, d6, d7, LW, d8, I1, L1, d9, build_fault, conc_fault]
                          exact ⟨10, by rw [rmT, hgT]; simp [endM, c8], rfl, KR.mono fun _ e => e.elim⟩
                    · have d6 := decide_eq_false c7
                      generalize hrr : r3 = rr at hgT
                      have SW : RdI prog h .i32 w3 rr := by rw [← hrr]; exact Sw3
                      rcases rr with _ | ⟨x1, _ | ⟨x2, r2⟩⟩
                      · have LW := SW.ln (n := 0) rfl
                        have d8 : decide ((0 : Int) < 2) = true := rfl
                        simp only [wk, wt, wl, ↓reduceIte, Nat.reduceEqDiff, Nat.reduceAdd, Nat.zero_add, not_false_eq_true, not_true_eq_false, pt, mxV, d5, d6, LW, d8, build_fault, conc_fault]
                        exact ⟨10, by rw [rmT, hgT]; simp [endM], rfl, KR.mono fun _ e => e.elim⟩
                      · have LW := SW.ln (n := 1) rfl
                        have d8 : decide ((1 : Int) < 2) = true := rfl
                        simp only [wk, wt, wl, ↓reduceIte, Nat.reduceEqDiff, Nat.reduceAdd, Nat.zero_add, not_false_eq_true, not_true_eq_false, pt, mxV, d5, d6, LW, d8, build_fault, conc_fault]
                        exact ⟨10, by rw [rmT, hgT]; simp [endM], rfl, KR.mono fun _ e => e.elim⟩
                      · have LW := SW.ln (n := (r2.length : Int) + 2) (by simp; omega)
                        have d8 : decide ((r2.length : Int) + 2 < 2) = false := decide_eq_false (by omega)
                        have I1 : aindexAddr prog 22 w3 (.int .i64 0) = _ := (SW.ix (i := 0) rfl).1
                        have L1 := (SW.ix (i := 0) rfl).2
                        have I2 : aindexAddr prog 22 w3 (.int .i64 1) = _ := (SW.ix (i := 1) rfl).1
                        have L2 := (SW.ix (i := 1) rfl).2
                        by_cases c8 : x1 = 92
                        · have d9 : decide (¬ x1 = 92) = false := by simp [c8]
                          by_cases c9 : x2 = 125
                          · have d10 : decide (¬ x2 = 125) = false := by simp [c9]
                            subst c8 c9
                            have SL : aslice prog h 22 w3 (some (.int .i64 2)) none none = some _ := (SW.lo (k := 2) (by simp)).1
                            have S2 := (SW.lo (k := 2) (by simp)).2
                            obtain ⟨h4, e4, R4, C4, z4⟩ := R.setR H S2.1 (fun b e => hwb3 b (by rw [← S2.2]; exact e))
                            have V4 := Ch.var H C4 V htr
                            have P4 := ReR.ch C4 (fun b e => by rw [show b = rb from e]; exact hDr) p c P
                            have hD4 : ∀ b, D b → b < h4.size := fun b e => by rw [z4]; exact hD b e
                            obtain ⟨h5, e5, c', V5, P5, R5, C5⟩ := star_put (lo := lo) (hi := hi) R4 (Ch.wf C4) V4 P4 hD4 hDr hDt htr htp
                            simp only [wk, wt, wl, ↓reduceIte, Nat.reduceEqDiff, Nat.reduceAdd, Nat.zero_add, not_false_eq_true, not_true_eq_false, pt, mxV, d5, d6, LW, d8, I1, L1, I2, L2, d9, d10, SL, e4, V4.re, bsRe (h := h4) P.one1.1 P.one1.2, build_relhp (one_slice), e5]
                            exact .inr ⟨_, _, c', by rw [rmT, hgT]; rfl, V5, P5, R5, (C4.mono fun b e => .inl e).then C5 fun b e => .inr e⟩
                          · have d10 : decide (¬ x2 = 125) = true := by simp [c9]
                            simp only [wk, wt, wl, ↓reduceIte, Nat.reduceEqDiff, Nat.reduceAdd, Nat.zero_add, not_false_eq_true, not_true_eq_false, pt, mxV, d5, d6, LW, d8, I1, L1, I2, L2, d9, d10, build_fault, conc_fault]
                            exact ⟨10, by rw [rmT, hgT]; simp [endM, c9], rfl, KR.mono fun _ e => e.elim⟩
                        · have d9 : decide (¬ x1 = 92) = true := by simp [c8]
                          simp only [wk, wt, wl, ↓reduceIte, Nat.reduceEqDiff, Nat.reduceAdd, Nat.zero_add, not_false_eq_true, not_true_eq_false, pt, mxV, d5, d6, LW, d8, I1, L1, d9, build_fault, conc_fault]
                          exact ⟨10, by rw [rmT, hgT]; simp [endM, c8], rfl, KR.mono fun _ e => e.elim⟩
            · have d4 := decide_eq_false c3
              have hh1 : hiM lo (z :: r1) = (lo, z :: r1) := by simp [hiM, c3]
              rw [hh1] at hT0
              simp only [wk, wt, wl, ↓reduceIte, Nat.reduceEqDiff, Nat.reduceAdd, Nat.zero_add, not_false_eq_true, not_true_eq_false, pt, LW, d3, IZ, LZ, d4]
              have hgT : timesM t = (if 100 < kmax lo lo ∨ (0 ≤ lo ∧ lo < lo) then .error 11 else endM lo lo (z :: r1)) := hT0
              have rmT : repM p (92 :: 123 :: t) = (match timesM t with | .error e => .error e | .ok (lo, hi, t) => .ok (some (pStar lo hi p, t))) := rfl
              by_cases c5 : 100 < kmax lo lo
              · have d5 := decide_eq_true c5
                simp only [wk, wt, wl, ↓reduceIte, Nat.reduceEqDiff, Nat.reduceAdd, Nat.zero_add, not_false_eq_true, not_true_eq_false, pt, mxV, d5, build_fault, conc_fault]
                exact ⟨11, by rw [rmT, hgT, if_pos (.inl c5)], rfl, KR.mono fun _ e => e.elim⟩
              · have d5 := decide_eq_false c5
                by_cases c6 : 0 ≤ lo ∧ lo < lo
                · have d6 := decide_eq_true c6.1
                  have d7 := decide_eq_true c6.2
                  simp only [wk, wt, wl, ↓reduceIte, Nat.reduceEqDiff, Nat.reduceAdd, Nat.zero_add, not_false_eq_true, not_true_eq_false, pt, mxV, d5, d6, d7, build_fault, conc_fault]
                  exact ⟨11, by rw [rmT, hgT, if_pos (.inr c6)], rfl, KR.mono fun _ e => e.elim⟩
                · rw [if_neg (fun e => e.elim c5 c6)] at hgT
                  have hcond : ∀ {A : Prop}, ((0 ≤ lo → decide (lo < lo) = false → A) ∧ (¬ 0 ≤ lo → A)) → A := fun {A} q => by
                    by_cases e : 0 ≤ lo
                    · exact q.1 e (decide_eq_false fun f => c6 ⟨e, f⟩)
                    · exact q.2 e
                  refine hcond ⟨fun c7 d7 => ?_, fun c7 => ?_⟩
                  · have d6 := decide_eq_true c7
                    generalize hrr : (z :: r1) = rr at hgT
                    have SW : RdI prog h .i32 w rr := by rw [← hrr]; exact Sw
                    rcases rr with _ | ⟨x1, _ | ⟨x2, r2⟩⟩
                    · have LW := SW.ln (n := 0) rfl
                      have d8 : decide ((0 : Int) < 2) = true := rfl
                      simp only [wk, wt, wl, ↓reduceIte, Nat.reduceEqDiff, Nat.reduceAdd, Nat.zero_add, not_false_eq_true, not_true_eq_false, pt, mxV, d5, d6, d7, LW, d8, build_fault, conc_fault]
                      exact ⟨10, by rw [rmT, hgT]; simp [endM], rfl, KR.mono fun _ e => e.elim⟩
                    · have LW := SW.ln (n := 1) rfl
                      have d8 : decide ((1 : Int) < 2) = true := rfl
                      simp only [wk, wt, wl, ↓reduceIte, Nat.reduceEqDiff, Nat.reduceAdd, Nat.zero_add, not_false_eq_true, not_true_eq_false, pt, mxV, d5, d6, d7, LW, d8, build_fault, conc_fault]
                      exact ⟨10, by rw [rmT, hgT]; simp [endM], rfl, KR.mono fun _ e => e.elim⟩
                    · have LW := SW.ln (n := (r2.length : Int) + 2) (by simp; omega)
                      have d8 : decide ((r2.length : Int) + 2 < 2) = false := decide_eq_false (by omega)
                      have I1 : aindexAddr prog 22 w (.int .i64 0) = _ := (SW.ix (i := 0) rfl).1
                      have L1 := (SW.ix (i := 0) rfl).2
                      have I2 : aindexAddr prog 22 w (.int .i64 1) = _ := (SW.ix (i := 1) rfl).1
                      have L2 := (SW.ix (i := 1) rfl).2
                      by_cases c8 : x1 = 92
                      · have d9 : decide (¬ x1 = 92) = false := by simp [c8]
                        by_cases c9 : x2 = 125
                        · have d10 : decide (¬ x2 = 125) = false := by simp [c9]
                          subst c8 c9
                          have SL : aslice prog h 22 w (some (.int .i64 2)) none none = some _ := (SW.lo (k := 2) (by simp)).1
                          have S2 := (SW.lo (k := 2) (by simp)).2
                          obtain ⟨h4, e4, R4, C4, z4⟩ := R.setR H S2.1 (fun b e => hwb b (by rw [← S2.2]; exact e))
                          have V4 := Ch.var H C4 V htr
                          have P4 := ReR.ch C4 (fun b e => by rw [show b = rb from e]; exact hDr) p c P
                          have hD4 : ∀ b, D b → b < h4.size := fun b e => by rw [z4]; exact hD b e
                          obtain ⟨h5, e5, c', V5, P5, R5, C5⟩ := star_put (lo := lo) (hi := lo) R4 (Ch.wf C4) V4 P4 hD4 hDr hDt htr htp
                          simp only [wk, wt, wl, ↓reduceIte, Nat.reduceEqDiff, Nat.reduceAdd, Nat.zero_add, not_false_eq_true, not_true_eq_false, pt, mxV, d5, d6, d7, LW, d8, I1, L1, I2, L2, d9, d10, SL, e4, V4.re, bsRe (h := h4) P.one1.1 P.one1.2, build_relhp (one_slice), e5]
                          exact .inr ⟨_, _, c', by rw [rmT, hgT]; rfl, V5, P5, R5, (C4.mono fun b e => .inl e).then C5 fun b e => .inr e⟩
                        · have d10 : decide (¬ x2 = 125) = true := by simp [c9]
                          simp only [wk, wt, wl, ↓reduceIte, Nat.reduceEqDiff, Nat.reduceAdd, Nat.zero_add, not_false_eq_true, not_true_eq_false, pt, mxV, d5, d6, d7, LW, d8, I1, L1, I2, L2, d9, d10, build_fault, conc_fault]
                          exact ⟨10, by rw [rmT, hgT]; simp [endM, c9], rfl, KR.mono fun _ e => e.elim⟩
                      · have d9 : decide (¬ x1 = 92) = true := by simp [c8]
                        simp only [wk, wt, wl, ↓reduceIte, Nat.reduceEqDiff, Nat.reduceAdd, Nat.zero_add, not_false_eq_true, not_true_eq_false, pt, mxV, d5, d6, d7, LW, d8, I1, L1, d9, build_fault, conc_fault]
                        exact ⟨10, by rw [rmT, hgT]; simp [endM, c8], rfl, KR.mono fun _ e => e.elim⟩
                  · have d6 := decide_eq_false c7
                    generalize hrr : (z :: r1) = rr at hgT
                    have SW : RdI prog h .i32 w rr := by rw [← hrr]; exact Sw
                    rcases rr with _ | ⟨x1, _ | ⟨x2, r2⟩⟩
                    · have LW := SW.ln (n := 0) rfl
                      have d8 : decide ((0 : Int) < 2) = true := rfl
                      simp only [wk, wt, wl, ↓reduceIte, Nat.reduceEqDiff, Nat.reduceAdd, Nat.zero_add, not_false_eq_true, not_true_eq_false, pt, mxV, d5, d6, LW, d8, build_fault, conc_fault]
                      exact ⟨10, by rw [rmT, hgT]; simp [endM], rfl, KR.mono fun _ e => e.elim⟩
                    · have LW := SW.ln (n := 1) rfl
                      have d8 : decide ((1 : Int) < 2) = true := rfl
                      simp only [wk, wt, wl, ↓reduceIte, Nat.reduceEqDiff, Nat.reduceAdd, Nat.zero_add, not_false_eq_true, not_true_eq_false, pt, mxV, d5, d6, LW, d8, build_fault, conc_fault]
                      exact ⟨10, by rw [rmT, hgT]; simp [endM], rfl, KR.mono fun _ e => e.elim⟩
                    · have LW := SW.ln (n := (r2.length : Int) + 2) (by simp; omega)
                      have d8 : decide ((r2.length : Int) + 2 < 2) = false := decide_eq_false (by omega)
                      have I1 : aindexAddr prog 22 w (.int .i64 0) = _ := (SW.ix (i := 0) rfl).1
                      have L1 := (SW.ix (i := 0) rfl).2
                      have I2 : aindexAddr prog 22 w (.int .i64 1) = _ := (SW.ix (i := 1) rfl).1
                      have L2 := (SW.ix (i := 1) rfl).2
                      by_cases c8 : x1 = 92
                      · have d9 : decide (¬ x1 = 92) = false := by simp [c8]
                        by_cases c9 : x2 = 125
                        · have d10 : decide (¬ x2 = 125) = false := by simp [c9]
                          subst c8 c9
                          have SL : aslice prog h 22 w (some (.int .i64 2)) none none = some _ := (SW.lo (k := 2) (by simp)).1
                          have S2 := (SW.lo (k := 2) (by simp)).2
                          obtain ⟨h4, e4, R4, C4, z4⟩ := R.setR H S2.1 (fun b e => hwb b (by rw [← S2.2]; exact e))
                          have V4 := Ch.var H C4 V htr
                          have P4 := ReR.ch C4 (fun b e => by rw [show b = rb from e]; exact hDr) p c P
                          have hD4 : ∀ b, D b → b < h4.size := fun b e => by rw [z4]; exact hD b e
                          obtain ⟨h5, e5, c', V5, P5, R5, C5⟩ := star_put (lo := lo) (hi := lo) R4 (Ch.wf C4) V4 P4 hD4 hDr hDt htr htp
                          simp only [wk, wt, wl, ↓reduceIte, Nat.reduceEqDiff, Nat.reduceAdd, Nat.zero_add, not_false_eq_true, not_true_eq_false, pt, mxV, d5, d6, LW, d8, I1, L1, I2, L2, d9, d10, SL, e4, V4.re, bsRe (h := h4) P.one1.1 P.one1.2, build_relhp (one_slice), e5]
                          exact .inr ⟨_, _, c', by rw [rmT, hgT]; rfl, V5, P5, R5, (C4.mono fun b e => .inl e).then C5 fun b e => .inr e⟩
                        · have d10 : decide (¬ x2 = 125) = true := by simp [c9]
                          simp only [wk, wt, wl, ↓reduceIte, Nat.reduceEqDiff, Nat.reduceAdd, Nat.zero_add, not_false_eq_true, not_true_eq_false, pt, mxV, d5, d6, LW, d8, I1, L1, I2, L2, d9, d10, build_fault, conc_fault]
                          exact ⟨10, by rw [rmT, hgT]; simp [endM, c9], rfl, KR.mono fun _ e => e.elim⟩
                      · have d9 : decide (¬ x1 = 92) = true := by simp [c8]
                        simp only [wk, wt, wl, ↓reduceIte, Nat.reduceEqDiff, Nat.reduceAdd, Nat.zero_add, not_false_eq_true, not_true_eq_false, pt, mxV, d5, d6, LW, d8, I1, L1, d9, build_fault, conc_fault]
                        exact ⟨10, by rw [rmT, hgT]; simp [endM, c8], rfl, KR.mono fun _ e => e.elim⟩
      · have d2 : decide (¬ y = 123) = true := by simp [c1]
        simp only [wk, wt, wl, ↓reduceIte, Nat.reduceEqDiff, Nat.reduceAdd, Nat.zero_add, not_false_eq_true, not_true_eq_false, pk, d0, d1, d2]
        exact .inl ⟨by simp [repM, peekM, c1], trivial⟩
    · have pk : peekV (x :: y :: t) = .tuple #[.int .i32 x, .int .i32 0, .int .i64 1] := by simp [peekV, peekM, c0]
      have d0 : decide ((1 : Int) = 1) = true := rfl
      have d1 : decide ((1 : Int) < 2) = true := rfl
      by_cases c1 : x = 42
      · have d2 := decide_eq_true c1
        subst c1
        obtain ⟨rv2, w, h1, a1, a2, a3, a4, a5, a6, a7, a8, a9, a10⟩ := R.adv H (k := 1) (by simp)
        rw [L0] at a1; cases a1
        have a4' : aslice prog h 22 rv (some (.int .i64 1)) none none = some w := a4
        have V1 := Ch.var H a9 V htr
        have P1 := ReR.ch a9 (fun b e => by rw [show b = rb from e]; exact hDr) p c P
        have hD1 : ∀ b, D b → b < h1.size := fun b e => by rw [a10]; exact hD b e
        obtain ⟨h5, e5, c', V5, P5, R5, C5⟩ := star_put (lo := 0) (hi := -1) a8 (Ch.wf a9) V1 P1 hD1 hDr hDt htr htp
        have e5' : storeV prog (h1.new 26 (reC c)) 26 (.pointer (some ⟨tb, 0, none⟩)) (reV { rc0 with k := 10, hi := -1, pv := .slice (some ⟨h1.size, 0, none⟩) 1 2 }) = some (undef, h5) := e5
        simp only [wk, wt, wl, ↓reduceIte, Nat.reduceEqDiff, Nat.reduceAdd, Nat.zero_add, not_false_eq_true, not_true_eq_false, pk, d0, d2, L0, a4', a7, V1.re, bsRe (h := h1) P.one1.1 P.one1.2, build_rehp (one_slice), e5']
        exact .inr ⟨_, _, c', rfl, V5, P5, R5, (a9.mono fun b e => .inl e).then C5 fun b e => .inr e⟩
      · have d2 := decide_eq_false c1
        simp only [wk, wt, wl, ↓reduceIte, Nat.reduceEqDiff, Nat.reduceAdd, Nat.zero_add, not_false_eq_true, not_true_eq_false, pk, d0, d2, d1]
        exact .inl ⟨by simp [repM, peekM, c0, c1], trivial⟩
end Go.Proofs.Ytnnkcbkenofhmaa.Am
