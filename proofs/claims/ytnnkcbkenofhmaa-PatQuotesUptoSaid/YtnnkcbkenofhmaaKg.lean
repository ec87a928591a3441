/- Patterns, the program: contracts of escaped, atom, by walks. -/
import Derived.Test.YtnnkcbkenofhmaaKf
set_option linter.unusedSimpArgs false
set_option linter.unusedVariables false
set_option maxHeartbeats 4000000
set_option maxRecDepth 20000
namespace Go.Proofs.Ytnnkcbkenofhmaa.Am
open Go Go.RowKit Go.Proofs.Try
/-- A reading of the program's answers as it is told. -/
def AC (f : FuncId) (args : Array Value) (h : Heap) (rb pb : Nat) (o : Int) (res : PRes) : Prop := ACallsX prog f args h
  (fun y h' => ∃ p t g' c, res = .ok (p, t, g') ∧ y = reV c ∧ ReR h' (Lt h.size) p c ∧ RD h' rb pb t g' o ∧ Ch (Bx rb) h h')
  (fun v h' => ∃ e, res = .error e ∧ v = flt e ∧ Ch (Bx rb) h h')
def Okl (l : List Int) (g : Int) : Prop := (l.length : Int) + g ≤ 10000000 ∧ 0 ≤ g ∧ I32 l
theorem Okl.sb {l t : List Int} {g g' : Int} (O : Okl l g) (hs : Sb t l) (h1 : (t.length : Int) + g' ≤ l.length + g) (h2 : g ≤ g') : Okl t g' :=
  ⟨by have := O.1; omega, by have := O.2.1; omega, fun x hx => O.2.2 x (hs x hx)⟩
/-- All alternatives, so many more groups one within the other. -/
def AltC (k : Nat) : Prop := ∀ (h : Heap) (rb pb : Nat) (l : List Int) (g : Int), RD h rb pb l g (16 - (k : Int)) → Okl l g → AC 20 #[pt rb] h rb pb (16 - (k : Int)) (altM (grpM k) l g)
abbrev LtV (m vb : Nat) : Nat → Prop := fun b => b < m ∨ b = vb
/-- A variable for the answer is put and read. -/
theorem fin_put {h h0 : Heap} {rb pb vb : Nat} {l : List Int} {g o : Int} {c d : RC} {p : Pat} (H : Wf h) (V : Var h vb (reC c)) (P : ReR h (LtV h0.size vb) p d) (R : RD h rb pb l g o) (C : Ch (Bx rb) h0 h) (hv : h0.size ≤ vb) (hp : pb < h0.size) (hr : rb < h0.size) :
    ∃ h', storeV prog h 26 (.pointer (some ⟨vb, 0, none⟩)) (reV d) = some (undef, h') ∧ aload prog h' 26 ⟨vb, 0, none⟩ = some (reV d) ∧ ReR h' (Lt h0.size) p d ∧ RD h' rb pb l g o ∧ Ch (Bx rb) h0 h' := by
  obtain ⟨h', e1, V1, C1, z1⟩ := V.put H P.one1.1 P.one1.2
  exact ⟨h', e1, V1.re, ReR.weak (fun b e => .inl e) p d (ReR.ch C1 (fun b e => .inr e) p d P), R.ch H C1 (by omega) (by omega), C.then C1 fun b e => .inl (by omega)⟩
theorem AC.ok {f : FuncId} {args : Array Value} {h : Heap} {rb pb : Nat} {o : Int} {res : PRes} {Qr Qp : Value → Heap → Prop} (A : AC f args h rb pb o res)
    (h1 : ∀ p t g' c h', res = .ok (p, t, g') → ReR h' (Lt h.size) p c → RD h' rb pb t g' o → Ch (Bx rb) h h' → Qr (reV c) h') (h2 : ∀ e h', res = .error e → Ch (Bx rb) h h' → Qp (flt e) h') : ACallsX prog f args h Qr Qp :=
  ACallsX.mono A (fun v h' ⟨p, t, g', c, e1, e2, e3, e4, e5⟩ => by rw [e2]; exact h1 p t g' c h' e1 e3 e4 e5) (fun v h' ⟨e, e1, e2, e3⟩ => by rw [e2]; exact h2 e h' e1 e3)
theorem escaped_ok {k : Nat} (hk : k ≤ 16) (G : ∀ j, k = j + 1 → AltC j) {h : Heap} {rb pb : Nat} {y : Int} {t : List Int} {g : Int} (R : RD h rb pb (92 :: y :: t) g (16 - (k : Int))) (O : Okl (92 :: y :: t) g) :
    AC 40 #[pt rb, .int .i32 y] h rb pb (16 - (k : Int)) (escM (grpM k) y (92 :: y :: t) g) := by
  unfold AC
  refine acallsX_of_W' func40 rfl (by kernel_rfl) (by kernel_rfl) (by simp [ntmps40]) ?_
  intro H
  obtain ⟨hrl, hpl, hpr⟩ := R.lt H
  have N1 := Keeps.new H 26 (reC rc0)
  have V1 := Var.new (e := 26) H (cs := reC rc0)
  have R1 := R.keeps H N1
  have C1 : Ch (Bx rb) h (h.new 26 (reC rc0)) := N1.mono fun _ e => e.elim
  by_cases c1 : y = 125
  · have d1 := decide_eq_true c1
    simp only [wk, wt, wl, ↓reduceIte, Nat.reduceEqDiff, Nat.reduceAdd, Nat.zero_add, not_false_eq_true, not_true_eq_false, pt, newRe, newSz, d1, build_fault, conc_fault]
    exact ⟨10, by simp [escM, c1], rfl, C1⟩
  have d1 := decide_eq_false c1
  by_cases c2 : y = 123
  · have d2 := decide_eq_true c2
    simp only [wk, wt, wl, ↓reduceIte, Nat.reduceEqDiff, Nat.reduceAdd, Nat.zero_add, not_false_eq_true, not_true_eq_false, pt, newRe, newSz, d1, d2, build_fault, conc_fault]
    exact ⟨11, by simp [escM, c2], rfl, C1⟩
  have d2 := decide_eq_false c2
  obtain ⟨rv, w, h2, a1, a2, a3, a4, a5, a6, a7, R2, C2, z2⟩ := R1.adv (Ch.wf N1) (k := 2) (by simp)
  have a4' : aslice prog (h.new 26 (reC rc0)) 22 rv (some (.int .i64 2)) none none = some w := a4
  have C02 : Ch (Bx rb) h h2 := C1.then C2 fun b e => .inr e
  have V2 := Ch.var (Ch.wf N1) C2 V1 (by omega)
  have R2' : RD h2 rb pb t g (16 - (k : Int)) := R2
  have hz1 : (h.new 26 (reC rc0)).size = h.size + 1 := rfl
  by_cases c3 : y = 60
  · have d3 := decide_eq_true c3
    subst c3
    have EQ : escM (grpM k) 60 (92 :: 60 :: t) g = .ok (pK 6, t, g) := rfl
    obtain ⟨h9, e9, l9, P9, R9, C9⟩ := fin_put (h0 := h) (d := { rc0 with k := 6 }) (Ch.wf C2) V2 ReR.k R2' C02 (Nat.le_refl _) hpl hrl
    simp only [wk, wt, wl, ↓reduceIte, Nat.reduceEqDiff, Nat.reduceAdd, Nat.zero_add, not_false_eq_true, not_true_eq_false, pt, newRe, newSz, d1, d2, d3, a1, a4', a7, build_rek, e9, l9]
    exact ⟨_, _, _, _, EQ, rfl, P9, R9, C9⟩
  have d3 := decide_eq_false c3
  by_cases c4 : y = 62
  · have d4 := decide_eq_true c4
    subst c4
    have EQ : escM (grpM k) 62 (92 :: 62 :: t) g = .ok (pK 7, t, g) := rfl
    obtain ⟨h9, e9, l9, P9, R9, C9⟩ := fin_put (h0 := h) (d := { rc0 with k := 7 }) (Ch.wf C2) V2 ReR.k R2' C02 (Nat.le_refl _) hpl hrl
    simp only [wk, wt, wl, ↓reduceIte, Nat.reduceEqDiff, Nat.reduceAdd, Nat.zero_add, not_false_eq_true, not_true_eq_false, pt, newRe, newSz, d1, d2, d3, d4, a1, a4', a7, build_rek, e9, l9]
    exact ⟨_, _, _, _, EQ, rfl, P9, R9, C9⟩
  have d4 := decide_eq_false c4
  by_cases c5 : y = 40
  · have d5 := decide_eq_true c5
    subst c5
    have EQ : escM (grpM k) 40 (92 :: 40 :: t) g = grpM k t g := rfl
    rw [EQ]
    obtain ⟨rv2, RV2, _⟩ := id R2'
    have LO := RV2.ld.2.2
    have wo : IntKind.i64.wrap (16 - (k : Int) + 1) = 17 - (k : Int) := by rw [IntWalk.i64_in _ (by omega)]; omega
    obtain ⟨h3, e3, R3, C3, z3⟩ := R2'.setO (Ch.wf C2) (17 - (k : Int))
    have C03 : Ch (Bx rb) h h3 := C02.then C3 fun b e => .inr e
    have V3 := Ch.var (Ch.wf C2) C3 V2 (by omega)
    obtain ⟨rv3, RV3, _⟩ := id R3
    have LO3 := RV3.ld.2.2
    have LG3 := RV3.ld.2.1
    rcases k with _ | k
    · have d6 : decide (16 < 17 - ((0 : Nat) : Int)) = true := rfl
      simp only [wk, wt, wl, ↓reduceIte, Nat.reduceEqDiff, Nat.reduceAdd, Nat.zero_add, not_false_eq_true, not_true_eq_false, pt, newRe, newSz, d1, d2, d3, d4, d5, a1, a4', a7, LO, wo, e3, LO3, d6, build_fault, conc_fault]
      exact ⟨12, rfl, rfl, C03⟩
    · have d6 : decide (16 < 17 - ((k + 1 : Nat) : Int)) = false := decide_eq_false (by omega)
      have hgb : g + 1 ≤ 10000000 := by have := O.1; simp only [List.length_cons] at this; omega
      have wg : IntKind.i64.wrap (g + 1) = g + 1 := IntWalk.i64_in _ (by have := O.2.1; omega)
      obtain ⟨h4, e4, R4, C4, z4⟩ := R3.setG (Ch.wf C3) (g + 1)
      have C04 : Ch (Bx rb) h h4 := C03.then C4 fun b e => .inr e
      have V4 := Ch.var (Ch.wf C3) C4 V3 (by omega)
      obtain ⟨rv4, RV4, _⟩ := id R4
      have LG4 := RV4.ld.2.1
      have N5 := Keeps.new (Ch.wf C4) 26 (reC rc0)
      obtain ⟨h5, e5, V5, C5, z5⟩ := (Var.new (e := 26) (Ch.wf C4) (cs := reC rc0)).put (Ch.wf N5) (d := { rc0 with k := 11, lo := g + 1 }) rfl rfl
      have K5 : Keeps h4 h5 := N5.step C5 fun b e => by omega
      have R5 := R4.keeps (Ch.wf C4) K5
      have V45 := Keeps.var (Ch.wf C4) K5 V4
      have hz4 : h4.size = h.size + 1 := by omega
      have hz5 : h5.size = h.size + 2 := by rw [z5]; show h4.size + 1 = _; omega
      have hoo : (17 - ((k + 1 : Nat) : Int)) = 16 - (k : Int) := by omega
      rw [hoo] at R5
      have O5 : Okl t (g + 1) := ⟨by have := O.1; simp only [List.length_cons] at this; omega, by have := O.2.1; omega, fun x hx => O.2.2 x (by simp [hx])⟩
      simp only [wk, wt, wl, ↓reduceIte, Nat.reduceEqDiff, Nat.reduceAdd, Nat.zero_add, not_false_eq_true, not_true_eq_false, pt, newRe, newSz, d1, d2, d3, d4, d5, a1, a4', a7, LO, wo, e3, LO3, d6, LG3, wg, e4, LG4, build_relo, e5]
      refine (G k rfl h5 rb pb t (g + 1) R5 O5).ok ?_ ?_
      · intro p t' g' c h6 hres P6 R6 C6
        have C46 : Ch (Bx rb) h4 h6 := (K5.mono (D' := Bx rb) fun _ e => e.elim).then C6 fun b e => .inr e
        have C06 : Ch (Bx rb) h h6 := C04.then C46 fun b e => .inr e
        have V6 := Ch.var (Ch.wf C5) C6 V5 (by omega)
        have V46 := Ch.var (Ch.wf K5) C6 V45 (by omega)
        have N7 := Keeps.new (Ch.wf C6) 26 (reC c)
        obtain ⟨h7, e7, V7, C7, z7⟩ := (Keeps.var (Ch.wf C6) N7 V6).store1 (P := prog) (t := 24) (v := .slice (some ⟨h6.size, 0, none⟩) 1 2) (i := 6) (Ch.wf N7) asz24 (by simp [reC]) rfl
        have V7' : Var h7 h4.size (reC { rc0 with k := 11, lo := g + 1, pv := .slice (some ⟨h6.size, 0, none⟩) 1 2 }) := V7
        have K7 : Ch (fun b => b = h4.size) h6 h7 := (N7.mono (D' := fun b => b = h4.size) fun _ e => e.elim).then C7 fun b e => .inr e
        have hl6 := Ch.le C6
        have R7 : RD h7 rb pb t' g' (16 - (k : Int)) := R6.ch (Ch.wf C6) K7 (by omega) (by omega)
        have V47 := Ch.var (Ch.wf C6) K7 V46 (by omega)
        have P7 : ReR h7 (Lt h5.size) p c := ReR.ch K7 (fun b e => by show b < _; omega) p c P6
        have S7 : RS prog h7 7 reC (.slice (some ⟨h6.size, 0, none⟩) 1 2) [c] := Ch.rd C7 (Rd.new (Ch.wf C6) asz26 rfl) fun b e f => by
          have e2 : h6.size = b := by cases e; rfl
          omega
        have PG : ReR h7 (LtV h.size h.size) (pG (g + 1) p) { rc0 with k := 11, lo := g + 1, pv := .slice (some ⟨h6.size, 0, none⟩) 1 2 } := ReR.ps (l := [c]) S7 (fun b e f => by
          have e2 : h6.size = b := by cases e; rfl
          rcases f with f | f <;> omega) (RePs.one (ReR.weak (fun b e => by show b < _; rcases e with e | e <;> omega) p c P7))
        have C07 : Ch (Bx rb) h h7 := C06.then K7 fun b e => .inl (by omega)
        have hM : grpM (k + 1) t g = if t'.length = 0 then .error 10 else .ok (pG (g + 1) p, t'.drop 2, g') := by
          simp only [grpM]; rw [hres]
        have cl := altM_len (grpM_GL k) hres
        obtain ⟨rv7, RV7, S7r, _⟩ := id R7
        have L7 := RV7.ld.1
        have bsC := bsRe (h := h6) P6.one1.1 P6.one1.2
        rcases t' with _ | ⟨b1, t''⟩
        · have LN7 := S7r.ln (n := 0) rfl
          have d8 : decide ((0 : Int) = 0) = true := rfl
          simp only [wk, wt, wl, ↓reduceIte, Nat.reduceEqDiff, Nat.reduceAdd, Nat.zero_add, not_false_eq_true, not_true_eq_false, pt, bsC, newSz, e7, L7, LN7, d8, build_fault, conc_fault]
          exact ⟨10, hM, rfl, C07⟩
        · obtain ⟨u, hu⟩ := closes cl.2.1 cl.2.2 (by simp)
          rw [hu] at R7 S7r hM
          have LN7 := S7r.ln (n := (u.length : Int) + 2) (by simp; omega)
          have d8 : decide ((u.length : Int) + 2 = 0) = false := decide_eq_false (by omega)
          obtain ⟨rv8, w8, h8, b1, b2, b3, b4, b5, b6, b7, R8, C8, z8⟩ := R7.adv (Ch.wf K7) (k := 2) (by simp)
          rw [L7] at b1; cases b1
          have b4' : aslice prog h7 22 rv7 (some (.int .i64 2)) none none = some w8 := b4
          obtain ⟨rv9, RV9, _⟩ := id R8
          have LO8 := RV9.ld.2.2
          have wo2 : IntKind.i64.wrap (16 - (k : Int) - 1) = 16 - ((k + 1 : Nat) : Int) := by rw [IntWalk.i64_in _ (by omega)]; omega
          obtain ⟨h9, e9, R9, C9, z9⟩ := R8.setO (Ch.wf C8) (16 - ((k + 1 : Nat) : Int))
          have C79 : Ch (Bx rb) h7 h9 := C8.then C9 fun b e => .inr e
          have V9 := Ch.var (Ch.wf K7) C79 V47 (by omega)
          have V79 := Ch.var (Ch.wf K7) C79 V7' (by omega)
          have P9 := ReR.ch C79 (fun b e => .inl (by have : b = rb := e; omega)) _ _ PG
          have C09 : Ch (Bx rb) h h9 := C07.then C79 fun b e => .inr e
          have R9' : RD h9 rb pb u g' (16 - ((k + 1 : Nat) : Int)) := R9
          have EQ2 : grpM (k + 1) t g = .ok (pG (g + 1) p, u, g') := by rw [hM, if_neg (by simp)]; rfl
          have V79' := V79.re
          obtain ⟨h10, e10, l9, P10, R10, C10⟩ := fin_put (h0 := h) (d := { rc0 with k := 11, lo := g + 1, pv := .slice (some ⟨h6.size, 0, none⟩) 1 2 }) (Ch.wf C79) V9 P9 R9' C09 (Nat.le_refl _) hpl hrl
          simp only [wk, wt, wl, ↓reduceIte, Nat.reduceEqDiff, Nat.reduceAdd, Nat.zero_add, not_false_eq_true, not_true_eq_false, pt, bsC, newSz, e7, L7, LN7, d8, b4', b7, LO8, wo2, e9, V79', e10, l9]
          exact ⟨_, _, _, _, EQ2, rfl, P10, R10, C10⟩
      · intro e h6 hres C6
        have C46 : Ch (Bx rb) h4 h6 := (K5.mono (D' := Bx rb) fun _ e => e.elim).then C6 fun b e => .inr e
        simp only [wk, wt, wl, ↓reduceIte, Nat.reduceEqDiff, Nat.reduceAdd, Nat.zero_add, not_false_eq_true, not_true_eq_false]
        exact ⟨e, by simp only [grpM]; rw [hres], rfl, C04.then C46 fun b e => .inr e⟩
  · have d5 := decide_eq_false c5
    have EQ : escM (grpM k) y (92 :: y :: t) g = .ok (pR y, t, g) := by simp [escM, c1, c2, c3, c4, c5]
    obtain ⟨h9, e9, l9, P9, R9, C9⟩ := fin_put (h0 := h) (d := { rc0 with k := 1, r := y }) (Ch.wf C2) V2 ReR.r R2' C02 (Nat.le_refl _) hpl hrl
    simp only [wk, wt, wl, ↓reduceIte, Nat.reduceEqDiff, Nat.reduceAdd, Nat.zero_add, not_false_eq_true, not_true_eq_false, pt, newRe, newSz, d1, d2, d3, d4, d5, a1, a4', a7, build_rer, e9, l9]
    exact ⟨_, _, _, _, EQ, rfl, P9, R9, C9⟩
end Go.Proofs.Ytnnkcbkenofhmaa.Am
