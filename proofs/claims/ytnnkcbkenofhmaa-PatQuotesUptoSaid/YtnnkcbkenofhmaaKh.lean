/- Patterns, the program: contract of atom, by a walk. -/
import Derived.Test.YtnnkcbkenofhmaaKg
set_option linter.unusedSimpArgs false
set_option linter.unusedVariables false
set_option maxHeartbeats 4000000
set_option maxRecDepth 20000
namespace Go.Proofs.Ytnnkcbkenofhmaa.Am
open Go Go.RowKit Go.Proofs.Try
theorem peek_one {x : Int} {t : List Int} (h : x ≠ 92) : peekM (x :: t) = (x, 0, 1) := by
  rcases t with _ | ⟨y, t⟩
  · rfl
  · simp [peekM, h]
theorem atom_ok {k : Nat} (hk : k ≤ 16) (G : ∀ j, k = j + 1 → AltC j) {h : Heap} {rb pb : Nat} {l : List Int} {g : Int} {first : Bool} (R : RD h rb pb l g (16 - (k : Int))) (O : Okl l g) (he : endedM l = false) :
    AC 33 #[pt rb, .bool first] h rb pb (16 - (k : Int)) (atomM (grpM k) first l g) := by
  unfold AC
  refine acallsX_of_W' func33 rfl (by kernel_rfl) (by kernel_rfl) (by simp [ntmps33]) ?_
  intro H
  obtain ⟨hrl, hpl, hpr⟩ := R.lt H
  have N1 := Keeps.new H 26 (reC rc0)
  have V1 := Var.new (e := 26) H (cs := reC rc0)
  have R1 := R.keeps H N1
  have C1 : Ch (Bx rb) h (h.new 26 (reC rc0)) := N1.mono fun _ e => e.elim
  have hz1 : (h.new 26 (reC rc0)).size = h.size + 1 := rfl
  simp only [wk, wt, wl, ↓reduceIte, Nat.reduceEqDiff, Nat.reduceAdd, Nat.zero_add, not_false_eq_true, not_true_eq_false, pt, newRe, newSz]
  refine (peek_ok R1).use_pure ?_
  rcases l with _ | ⟨x, t⟩
  · cases he
  by_cases c0 : x = 91
  · subst c0
    have pk : peekV (91 :: t) = .tuple #[.int .i32 91, .int .i32 0, .int .i64 1] := by
      rcases t with _ | ⟨y, t⟩ <;> rfl
    have d0 : decide ((91 : Int) = 91) = true := rfl
    have hM : atomM (grpM k) first (91 :: t) g = (match setM t with | .error e => .error e | .ok (p, t) => .ok (p, t, g)) := by
      rcases t with _ | ⟨y, t⟩ <;> rfl
    simp only [wk, wt, wl, ↓reduceIte, Nat.reduceEqDiff, Nat.reduceAdd, Nat.zero_add, not_false_eq_true, not_true_eq_false, pt, pk, d0]
    refine ACallsX.mono (set_ok R1 (by have := O.1; simp only [List.length_cons] at this; have := O.2.1; omega) (fun y hy => O.2.2 y (List.mem_cons_of_mem _ hy))) ?_ ?_
    · rintro _ h2 ⟨p, u, c, hres, rfl, P2, R2, C2⟩
      have C02 : Ch (Bx rb) h h2 := C1.then C2 fun b e => .inr e
      have V2 := Ch.var (Ch.wf N1) C2 V1 (by omega)
      have P2' : ReR h2 (LtV h.size h.size) p c := ReR.weak (fun b e => by show b < _; rcases e with e | e <;> omega) p c P2
      have EQ : atomM (grpM k) first (91 :: t) g = .ok (p, u, g) := by rw [hM, hres]
      obtain ⟨h9, e9, l9, P9, R9, C9⟩ := fin_put (h0 := h) (d := c) (Ch.wf C2) V2 P2' R2 C02 (Nat.le_refl _) hpl hrl
      simp only [wk, wt, wl, ↓reduceIte, Nat.reduceEqDiff, Nat.reduceAdd, Nat.zero_add, not_false_eq_true, not_true_eq_false, pt, e9, l9]
      exact ⟨_, _, _, _, EQ, rfl, P9, R9, C9⟩
    · rintro _ h2 ⟨e, hres, rfl, C2⟩
      simp only [wk, wt, wl, ↓reduceIte, Nat.reduceEqDiff, Nat.reduceAdd, Nat.zero_add, not_false_eq_true, not_true_eq_false]
      exact ⟨e, by rw [hM, hres], rfl, C1.then C2 fun b e => .inr e⟩
  have d0 := decide_eq_false c0
  by_cases c1 : x = 92
  · subst c1
    rcases t with _ | ⟨y, t⟩
    · have pk : peekV [92] = .tuple #[.int .i32 92, .int .i32 0, .int .i64 1] := rfl
      have d1 : decide ((1 : Int) = 2) = false := rfl
      have d2 : decide ((92 : Int) = 92) = true := rfl
      simp only [wk, wt, wl, ↓reduceIte, Nat.reduceEqDiff, Nat.reduceAdd, Nat.zero_add, not_false_eq_true, not_true_eq_false, pt, pk, d0, d1, d2, build_fault, conc_fault]
      exact ⟨5, rfl, rfl, C1⟩
    · have pk : peekV (92 :: y :: t) = .tuple #[.int .i32 92, .int .i32 y, .int .i64 2] := rfl
      have d1 : decide ((2 : Int) = 2) = true := rfl
      have hM : atomM (grpM k) first (92 :: y :: t) g = escM (grpM k) y (92 :: y :: t) g := rfl
      rw [hM]
      simp only [wk, wt, wl, ↓reduceIte, Nat.reduceEqDiff, Nat.reduceAdd, Nat.zero_add, not_false_eq_true, not_true_eq_false, pt, pk, d0, d1]
      refine (escaped_ok hk G R1 O).ok ?_ ?_
      · intro p u g' c h2 hres P2 R2 C2
        have C02 : Ch (Bx rb) h h2 := C1.then C2 fun b e => .inr e
        have V2 := Ch.var (Ch.wf N1) C2 V1 (by omega)
        have P2' : ReR h2 (LtV h.size h.size) p c := ReR.weak (fun b e => by show b < _; rcases e with e | e <;> omega) p c P2
        obtain ⟨h9, e9, l9, P9, R9, C9⟩ := fin_put (h0 := h) (d := c) (Ch.wf C2) V2 P2' R2 C02 (Nat.le_refl _) hpl hrl
        simp only [wk, wt, wl, ↓reduceIte, Nat.reduceEqDiff, Nat.reduceAdd, Nat.zero_add, not_false_eq_true, not_true_eq_false, pt, e9, l9]
        exact ⟨_, _, _, _, hres, rfl, P9, R9, C9⟩
      · intro e h2 hres C2
        simp only [wk, wt, wl, ↓reduceIte, Nat.reduceEqDiff, Nat.reduceAdd, Nat.zero_add, not_false_eq_true, not_true_eq_false]
        exact ⟨e, hres, rfl, C1.then C2 fun b e => .inr e⟩
  have d1 : decide ((1 : Int) = 2) = false := rfl
  have d2 := decide_eq_false c1
  have pk : peekV (x :: t) = .tuple #[.int .i32 x, .int .i32 0, .int .i64 1] := by
    rcases t with _ | ⟨y, t⟩
    · rfl
    · simp [peekV, peekM, c1]
  obtain ⟨rv, w, h2, a1, a2, a3, a4, a5, a6, a7, R2, C2, z2⟩ := R1.adv (Ch.wf N1) (k := 1) (by simp)
  have a4' : aslice prog (h.new 26 (reC rc0)) 22 rv (some (.int .i64 1)) none none = some w := a4
  have C02 : Ch (Bx rb) h h2 := C1.then C2 fun b e => .inr e
  have V2 := Ch.var (Ch.wf N1) C2 V1 (by omega)
  have R2' : RD h2 rb pb t g (16 - (k : Int)) := R2
  by_cases c3 : x = 46
  · have d3 := decide_eq_true c3
    subst c3
    have EQ : atomM (grpM k) first (46 :: t) g = .ok (pK 2, t, g) := by simp [atomM, peek_one]
    obtain ⟨h9, e9, l9, P9, R9, C9⟩ := fin_put (h0 := h) (d := { rc0 with k := 2 }) (Ch.wf C2) V2 ReR.k R2' C02 (Nat.le_refl _) hpl hrl
    simp only [wk, wt, wl, ↓reduceIte, Nat.reduceEqDiff, Nat.reduceAdd, Nat.zero_add, not_false_eq_true, not_true_eq_false, pt, newRe, newSz, pk, d0, d1, d2, d3, a1, a4', a7, build_rek, e9, l9]
    exact ⟨_, _, _, _, EQ, rfl, P9, R9, C9⟩
  have d3 := decide_eq_false c3
  by_cases c4 : x = 94
  · have d4 := decide_eq_true c4
    subst c4
    cases first with
    | true =>
      have EQ : atomM (grpM k) true (94 :: t) g = .ok (pK 4, t, g) := by simp [atomM, peek_one]
      obtain ⟨h9, e9, l9, P9, R9, C9⟩ := fin_put (h0 := h) (d := { rc0 with k := 4 }) (Ch.wf C2) V2 ReR.k R2' C02 (Nat.le_refl _) hpl hrl
      simp only [wk, wt, wl, ↓reduceIte, Nat.reduceEqDiff, Nat.reduceAdd, Nat.zero_add, not_false_eq_true, not_true_eq_false, pt, newRe, newSz, pk, d0, d1, d2, d3, d4, a1, a4', a7, build_rek, e9, l9]
      exact ⟨_, _, _, _, EQ, rfl, P9, R9, C9⟩
    | false =>
      have d5 : decide ((94 : Int) = 36) = false := rfl
      have EQ : atomM (grpM k) false (94 :: t) g = .ok (pR 94, t, g) := by simp [atomM, peek_one]
      obtain ⟨h9, e9, l9, P9, R9, C9⟩ := fin_put (h0 := h) (d := { rc0 with k := 1, r := 94 }) (Ch.wf C2) V2 ReR.r R2' C02 (Nat.le_refl _) hpl hrl
      simp only [wk, wt, wl, ↓reduceIte, Nat.reduceEqDiff, Nat.reduceAdd, Nat.zero_add, not_false_eq_true, not_true_eq_false, pt, newRe, newSz, pk, d0, d1, d2, d3, d4, d5, a1, a4', a7, build_rer, e9, l9]
      exact ⟨_, _, _, _, EQ, rfl, P9, R9, C9⟩
  have d4 := decide_eq_false c4
  by_cases c5 : x = 36
  · have d5 := decide_eq_true c5
    subst c5
    obtain ⟨rv2, RV2, S2, _⟩ := id R2'
    have L2 := RV2.ld.1
    simp only [wk, wt, wl, ↓reduceIte, Nat.reduceEqDiff, Nat.reduceAdd, Nat.zero_add, not_false_eq_true, not_true_eq_false, pt, newRe, newSz, pk, d0, d1, d2, d3, d4, d5, a1, a4', a7, L2]
    refine (ended_ok S2).use_pure ?_
    cases he : endedM t with
    | true =>
      have EQ : atomM (grpM k) first (36 :: t) g = .ok (pK 5, t, g) := by simp [atomM, peek_one, he]
      obtain ⟨h9, e9, l9, P9, R9, C9⟩ := fin_put (h0 := h) (d := { rc0 with k := 5 }) (Ch.wf C2) V2 ReR.k R2' C02 (Nat.le_refl _) hpl hrl
      simp only [wk, wt, wl, ↓reduceIte, Nat.reduceEqDiff, Nat.reduceAdd, Nat.zero_add, not_false_eq_true, not_true_eq_false, pt, build_rek, e9, l9]
      exact ⟨_, _, _, _, EQ, rfl, P9, R9, C9⟩
    | false =>
      have EQ : atomM (grpM k) first (36 :: t) g = .ok (pR 36, t, g) := by simp [atomM, peek_one, he]
      obtain ⟨h9, e9, l9, P9, R9, C9⟩ := fin_put (h0 := h) (d := { rc0 with k := 1, r := 36 }) (Ch.wf C2) V2 ReR.r R2' C02 (Nat.le_refl _) hpl hrl
      simp only [wk, wt, wl, ↓reduceIte, Nat.reduceEqDiff, Nat.reduceAdd, Nat.zero_add, not_false_eq_true, not_true_eq_false, pt, build_rer, e9, l9]
      exact ⟨_, _, _, _, EQ, rfl, P9, R9, C9⟩
  have d5 := decide_eq_false c5
  have EQ : atomM (grpM k) first (x :: t) g = .ok (pR x, t, g) := by simp [atomM, peek_one c1, c0, c1, c3, c4, c5]
  obtain ⟨h9, e9, l9, P9, R9, C9⟩ := fin_put (h0 := h) (d := { rc0 with k := 1, r := x }) (Ch.wf C2) V2 ReR.r R2' C02 (Nat.le_refl _) hpl hrl
  simp only [wk, wt, wl, ↓reduceIte, Nat.reduceEqDiff, Nat.reduceAdd, Nat.zero_add, not_false_eq_true, not_true_eq_false, pt, newRe, newSz, pk, d0, d1, d2, d3, d4, d5, a1, a4', a7, build_rer, e9, l9]
  exact ⟨_, _, _, _, EQ, rfl, P9, R9, C9⟩
end Go.Proofs.Ytnnkcbkenofhmaa.Am
