/- Could more bytes make a scalar: contracts of the document's begins and Next, by walks. -/
import Derived.Test.YtgllmnckphbkeaaVh
set_option linter.unusedSimpArgs false
set_option linter.unusedVariables false
set_option maxHeartbeats 4000000
namespace Go.Proofs.Ytgllmnckphbkeaa.Am
open Go Go.RowKit Go.Proofs.Try
def beginsZ (b : List Int) : Bool := decide (b ≠ [] ∧ nextZ b = none)
theorem begins_true {b : List Int} {x : Int} (hx : x ∈ endsT) (h : extB b x) : beginsZ b = true := decide_eq_true (ext_iff.1 ⟨x, hx, h⟩)
theorem begins_false {b : List Int} (h : ∀ x, x ∈ endsT → ¬ extB b x) : beginsZ b = false := decide_eq_false fun e => by
  obtain ⟨x, hx, hh⟩ := ext_iff.2 e
  exact h x hx hh
theorem endsT_B : ∀ x, x ∈ endsT → isB x := by
  intro x hx
  simp only [endsT, List.mem_cons, List.not_mem_nil, or_false] at hx
  unfold isB; omega
theorem begins_ok : ∀ (k : Nat) {v : Value} {b : List Int} {h : Heap}, 4 - b.length ≤ k → RdI prog h .u8 v b → (∀ x, x ∈ b → isB x) →
    ACalls prog 29 #[v] h (fun x h' => x = .bool (beginsZ b) ∧ Keeps h h') := by
  intro k
  induction k with
  | zero =>
    intro v b h hk hv hb
    refine acalls_of_W' func29 rfl (by kernel_rfl) (by kernel_rfl) (by simp [ntmps29]) ?_
    intro H
    have e : decide ((4 : Int) ≤ b.length) = true := decide_eq_true (by omega)
    simp only [wk, wt, wl, ↓reduceIte, Nat.reduceEqDiff, Nat.reduceAdd, Nat.zero_add, not_false_eq_true, not_true_eq_false, RdI.len hv underlying22, e]
    have : beginsZ b = false := decide_eq_false fun e => by have := (nextZ_none e.2).1; omega
    rw [this]
    exact ⟨rfl, Keeps.refl H⟩
  | succ k ih =>
    intro v b h hk hv hb
    have hk' : 4 - (b.length + 1) ≤ k := by omega
    refine acalls_of_W' func29 rfl (by kernel_rfl) (by kernel_rfl) (by simp [ntmps29]) ?_
    intro H
    by_cases h4 : 4 ≤ b.length
    · have e : decide ((4 : Int) ≤ b.length) = true := decide_eq_true (by omega)
      simp only [wk, wt, wl, ↓reduceIte, Nat.reduceEqDiff, Nat.reduceAdd, Nat.zero_add, not_false_eq_true, not_true_eq_false, RdI.len hv underlying22, e]
      have : beginsZ b = false := decide_eq_false fun e => by have := (nextZ_none e.2).1; omega
      rw [this]
      exact ⟨rfl, Keeps.refl H⟩
    have e : decide ((4 : Int) ≤ b.length) = false := decide_eq_false (by omega)
    simp only [wk, wt, wl, ↓reduceIte, Nat.reduceEqDiff, Nat.reduceAdd, Nat.zero_add, not_false_eq_true, not_true_eq_false, RdI.len hv underlying22, e, build0 (P := prog) (t := 22) underlying22 asz5]
    have N1 := Keeps.new H 5 []
    have O1 : Own prog h.size (h.new 5 []) 1 (.slice (some ⟨h.size, 0, none⟩) 0 1) 0 [] := Own.new H (Nat.le_refl _) asz5 rfl
    obtain ⟨cv, h2, e2, O2, R2, C2, _⟩ := O1.appendRd (P := prog) (Ch.wf N1) (Ch.le N1) underlying22 underlying22 rfl elem5 fits5 (by decide) (hv.keeps N1) (by omega)
    rw [e2]; clear e2
    have K2 := N1.step C2 fun b hb => hb.2
    have hc : RdI prog h2 .u8 cv b := by
      have := O2.1
      simpa [RdI] using this
    clear O1 O2 R2 C2 N1
    simp only [wk, wt, wl, ↓reduceIte, Nat.reduceEqDiff, Nat.reduceAdd, Nat.zero_add, not_false_eq_true, not_true_eq_false]
    refine W_loop (fun tm h' => h' = h2 ∧ tm 3 = cv) (fun _ _ => 0) ⟨rfl, (by first | rfl | (simp only [wk, wt, wl, ↓reduceIte, Nat.reduceEqDiff, Nat.reduceAdd, Nat.zero_add, not_false_eq_true, not_true_eq_false]; done) | (simp only [wk, wt, wl, ↓reduceIte, Nat.reduceEqDiff, Nat.reduceAdd, Nat.zero_add, not_false_eq_true, not_true_eq_false]; rfl))⟩ ?_
    rintro tm h0 ⟨rfl, t3⟩
    have e4 : decide ((b.length : Int) < 4) = true := decide_eq_true (by omega)
    simp only [wk, wt, wl, ↓reduceIte, Nat.reduceEqDiff, Nat.reduceAdd, Nat.zero_add, not_false_eq_true, not_true_eq_false, t3, RdI.len hc underlying22, e4]
    have N3 := Keeps.new (Ch.wf K2) 5 (bI endsT)
    have T3 := rdNewB (Ch.wf K2) endsT
    have K3 := K2.trans N3
    have hc3 := hc.keeps N3
    refine W_loop (fun tm h' => tm 3 = cv ∧ tm 19 = .slice (some ⟨h0.size, 0, none⟩) 6 7 ∧ tm 20 = .int .i64 6 ∧ Keeps h h' ∧ RdI prog h' .u8 cv b ∧ RdI prog h' .u8 (.slice (some ⟨h0.size, 0, none⟩) 6 7) endsT ∧ ∃ i : Nat, tm 21 = .int .i64 i ∧ i ≤ 6 ∧ ∀ j, j < i → ¬ extB b (endsT.getD j 0)) (fun tm _ => (6 - intOf (tm 21)).toNat)
      ⟨(by first | rfl | (simp only [wk, wt, wl, ↓reduceIte, Nat.reduceEqDiff, Nat.reduceAdd, Nat.zero_add, not_false_eq_true, not_true_eq_false]; done) | (simp only [wk, wt, wl, ↓reduceIte, Nat.reduceEqDiff, Nat.reduceAdd, Nat.zero_add, not_false_eq_true, not_true_eq_false]; rfl) | (simp only [wk, wt, wl, ↓reduceIte, Nat.reduceEqDiff, Nat.reduceAdd, Nat.zero_add, not_false_eq_true, not_true_eq_false, t3]; done) | (simp only [wk, wt, wl, ↓reduceIte, Nat.reduceEqDiff, Nat.reduceAdd, Nat.zero_add, not_false_eq_true, not_true_eq_false, t3]; rfl)), (by first | rfl | (simp only [wk, wt, wl, ↓reduceIte, Nat.reduceEqDiff, Nat.reduceAdd, Nat.zero_add, not_false_eq_true, not_true_eq_false]; done) | (simp only [wk, wt, wl, ↓reduceIte, Nat.reduceEqDiff, Nat.reduceAdd, Nat.zero_add, not_false_eq_true, not_true_eq_false]; rfl)), (by first | rfl | (simp only [wk, wt, wl, ↓reduceIte, Nat.reduceEqDiff, Nat.reduceAdd, Nat.zero_add, not_false_eq_true, not_true_eq_false]; done) | (simp only [wk, wt, wl, ↓reduceIte, Nat.reduceEqDiff, Nat.reduceAdd, Nat.zero_add, not_false_eq_true, not_true_eq_false]; rfl)), K3, hc3, T3, 0, (by first | rfl | (simp only [wk, wt, wl, ↓reduceIte, Nat.reduceEqDiff, Nat.reduceAdd, Nat.zero_add, not_false_eq_true, not_true_eq_false]; done) | (simp only [wk, wt, wl, ↓reduceIte, Nat.reduceEqDiff, Nat.reduceAdd, Nat.zero_add, not_false_eq_true, not_true_eq_false]; rfl)), by omega, fun j hj => by omega⟩ ?_
    clear K3 hc3 T3 t3
    rintro tm h' ⟨t3, t19, t20, K, hc', hT, i, t21, hi, hnx⟩
    simp only [wk, wt, wl, ↓reduceIte, Nat.reduceEqDiff, Nat.reduceAdd, Nat.zero_add, not_false_eq_true, not_true_eq_false, t3, t19, t20, t21]
    refine condK_dec (fun hd => ?_) (fun hd => ?_)
    · have hi6 : i < endsT.length := by have : endsT.length = 6 := rfl; omega
      have hxT : endsT.getD i 0 ∈ endsT := by rw [List.getD_eq_getElem?_getD, List.getElem?_eq_getElem hi6]; exact List.getElem_mem _
      have LX := RdI.at hT (t := 5) underlying5 rfl hi6
      have nxt : ¬ extB b (endsT.getD i 0) → ∀ j, j < i + 1 → ¬ extB b (endsT.getD j 0) := fun hn j hj => by
        by_cases e : j = i
        · subst e; exact hn
        · exact hnx j (by omega)
      generalize endsT.getD i 0 = x at LX hxT nxt
      have hxB := endsT_B x hxT
      simp (disch := omega) only [wk, wt, wl, ↓reduceIte, Nat.reduceEqDiff, Nat.reduceAdd, Nat.zero_add, not_false_eq_true, not_true_eq_false, t3, t19, t20, t21, RdI.index hT underlying22 asz5 (q := .i64) (i := (i : Int)), Int.toNat_natCast, LX, build0 (P := prog) (t := 22) underlying22 asz5]
      have N4 := Keeps.new (Ch.wf K) 5 []
      have K4 := K.trans N4
      have O4 : Own prog h'.size (h'.new 5 []) 1 (.slice (some ⟨h'.size, 0, none⟩) 0 1) 0 [] := Own.new (Ch.wf K) (Nat.le_refl _) asz5 rfl
      obtain ⟨v5, h5, e5, O5, R5, C5, _⟩ := O4.appendRd (P := prog) (Ch.wf N4) (Ch.le N4) underlying22 underlying22 rfl elem5 fits5 (by decide) (hc'.keeps N4) (by omega)
      rw [e5]; clear e5
      have N5 := N4.step C5 fun b hb => hb.2
      simp only [wk, wt, wl, ↓reduceIte, Nat.reduceEqDiff, Nat.reduceAdd, Nat.zero_add, not_false_eq_true, not_true_eq_false]
      obtain ⟨v6, h6, e6, O6, C6, R6, _⟩ := O5.append1 (P := prog) (Ch.wf N5) (Ch.le N5) underlying22 elem5 fits5 (by decide) (by decide) (xs := [.int .u8 x]) rfl (by omega)
      rw [e6]; clear e6
      have N6 := N5.step C6 fun b hb => hb.2
      have K6' := K.trans N6
      have hd6' : RdI prog h6 .u8 v6 (b ++ [x]) := by
        have := O6.1
        simpa [RdI] using this
      have dl : (b ++ [x]).length = b.length + 1 := by simp
      have hdB : ∀ y, y ∈ b ++ [x] → isB y := fun y hy => by
        rcases List.mem_append.1 hy with hy | hy
        · exact hb y hy
        · simp only [List.mem_singleton] at hy; subst hy; exact hxB
      simp only [wk, wt, wl, ↓reduceIte, Nat.reduceEqDiff, Nat.reduceAdd, Nat.zero_add, not_false_eq_true, not_true_eq_false]
      refine (whole_ok hd6' hdB (by rw [dl]; omega)).use ?_
      rintro _ h7 ⟨rfl, K7⟩
      have K6 := K6'.trans K7
      have hd6 := hd6'.keeps K7
      have hc6 := (hc'.keeps N6).keeps K7
      have hT6 := (hT.keeps N6).keeps K7
      have L6 : abuiltin prog .len #[22] #[v6] = some (.int .i64 ((b.length + 1 : Nat) : Int)) := by
        rw [RdI.len hd6 underlying22, dl]
      cases hw : wholeZ (b ++ [x]) with
      | none =>
        have hno : ¬ ∃ r, wholeZ (b ++ [x]) = some (r, b.length + 1) := fun ⟨r, e⟩ => by rw [hw] at e; cases e
        simp only [wholeT, hw]
        simp only [wk, wt, wl, ↓reduceIte, Nat.reduceEqDiff, Nat.reduceAdd, Nat.zero_add, not_false_eq_true, not_true_eq_false, t3, L6]
        have t6 : True := trivial
        by_cases h3 : b.length + 1 < 4
        · have e3 : decide (((b.length + 1 : Nat) : Int) < 4) = true := decide_eq_true (by omega)
          simp only [wk, wt, wl, ↓reduceIte, Nat.reduceEqDiff, Nat.reduceAdd, Nat.zero_add, not_false_eq_true, not_true_eq_false, t3, t6, L6, e3]
          refine (ih (by rw [dl]; exact hk') hd6 hdB).use ?_
          rintro _ h9 ⟨rfl, K9⟩
          cases hbz : beginsZ (b ++ [x]) with
          | true =>
            have ex : extB b x := .inr ⟨h3, (of_decide_eq_true hbz).2, (of_decide_eq_true hbz).1⟩
            simp only [wk, wt, wl, ↓reduceIte, Nat.reduceEqDiff, Nat.reduceAdd, Nat.zero_add, not_false_eq_true, not_true_eq_false]
            rw [begins_true hxT ex]
            exact ⟨rfl, K6.trans K9⟩
          | false =>
            have nx : ¬ extB b x := fun e => by
              rcases e with e | ⟨_, e1, e2⟩
              · exact hno e
              · have : beginsZ (b ++ [x]) = true := decide_eq_true ⟨e2, e1⟩
                rw [hbz] at this; cases this
            have K := K6.trans K9
            simp (disch := omega) only [wk, wt, wl, ↓reduceIte, Nat.reduceEqDiff, Nat.reduceAdd, Nat.zero_add, not_false_eq_true, not_true_eq_false, t3, t19, t20, t21, IntWalk.i64_in, intOf_int]
            exact ⟨⟨K, hc6.keeps K9, hT6.keeps K9, i + 1, by simp, by omega, nxt nx⟩, by omega⟩
        · have e3 : decide (((b.length + 1 : Nat) : Int) < 4) = false := decide_eq_false (by omega)
          have nx : ¬ extB b x := fun e => by
            rcases e with e | ⟨e0, _⟩
            · exact hno e
            · exact h3 e0
          simp (disch := omega) only [wk, wt, wl, ↓reduceIte, Nat.reduceEqDiff, Nat.reduceAdd, Nat.zero_add, not_false_eq_true, not_true_eq_false, t3, t6, t19, t20, t21, L6, e3, IntWalk.i64_in, intOf_int]
          exact ⟨⟨K6, hc6, hT6, i + 1, by simp, by omega, nxt nx⟩, by omega⟩
      | some p =>
        obtain ⟨r, n⟩ := p
        by_cases hn : n = b.length + 1
        · subst hn
          have ex : extB b x := .inl ⟨r, hw⟩
          simp only [wholeT, hw]
          simp only [wk, wt, wl, ↓reduceIte, Nat.reduceEqDiff, Nat.reduceAdd, Nat.zero_add, not_false_eq_true, not_true_eq_false, t3, L6, decide_true]
          rw [begins_true hxT ex]
          exact ⟨rfl, K6⟩
        · have hno : ¬ ∃ r, wholeZ (b ++ [x]) = some (r, b.length + 1) := fun ⟨r, e⟩ => by rw [hw] at e; simp only [Option.some.injEq, Prod.mk.injEq] at e; exact hn e.2
          have e9 : decide ((n : Int) = ((b.length + 1 : Nat) : Int)) = false := decide_eq_false (by omega)
          simp only [wholeT, hw]
          simp only [wk, wt, wl, ↓reduceIte, Nat.reduceEqDiff, Nat.reduceAdd, Nat.zero_add, not_false_eq_true, not_true_eq_false, t3, L6, e9]
          have t6 : True := trivial
          by_cases h3 : b.length + 1 < 4
          · have e3 : decide (((b.length + 1 : Nat) : Int) < 4) = true := decide_eq_true (by omega)
            simp only [wk, wt, wl, ↓reduceIte, Nat.reduceEqDiff, Nat.reduceAdd, Nat.zero_add, not_false_eq_true, not_true_eq_false, t3, t6, L6, e3]
            refine (ih (by rw [dl]; exact hk') hd6 hdB).use ?_
            rintro _ h9 ⟨rfl, K9⟩
            cases hbz : beginsZ (b ++ [x]) with
            | true =>
              have ex : extB b x := .inr ⟨h3, (of_decide_eq_true hbz).2, (of_decide_eq_true hbz).1⟩
              simp only [wk, wt, wl, ↓reduceIte, Nat.reduceEqDiff, Nat.reduceAdd, Nat.zero_add, not_false_eq_true, not_true_eq_false]
              rw [begins_true hxT ex]
              exact ⟨rfl, K6.trans K9⟩
            | false =>
              have nx : ¬ extB b x := fun e => by
                rcases e with e | ⟨_, e1, e2⟩
                · exact hno e
                · have : beginsZ (b ++ [x]) = true := decide_eq_true ⟨e2, e1⟩
                  rw [hbz] at this; cases this
              have K := K6.trans K9
              simp (disch := omega) only [wk, wt, wl, ↓reduceIte, Nat.reduceEqDiff, Nat.reduceAdd, Nat.zero_add, not_false_eq_true, not_true_eq_false, t3, t19, t20, t21, IntWalk.i64_in, intOf_int]
              exact ⟨⟨K, hc6.keeps K9, hT6.keeps K9, i + 1, by simp, by omega, nxt nx⟩, by omega⟩
          · have e3 : decide (((b.length + 1 : Nat) : Int) < 4) = false := decide_eq_false (by omega)
            have nx : ¬ extB b x := fun e => by
              rcases e with e | ⟨e0, _⟩
              · exact hno e
              · exact h3 e0
            simp (disch := omega) only [wk, wt, wl, ↓reduceIte, Nat.reduceEqDiff, Nat.reduceAdd, Nat.zero_add, not_false_eq_true, not_true_eq_false, t3, t6, t19, t20, t21, L6, e3, IntWalk.i64_in, intOf_int]
            exact ⟨⟨K6, hc6, hT6, i + 1, by simp, by omega, nxt nx⟩, by omega⟩
    · have hf : beginsZ b = false := begins_false fun y hy => by
        obtain ⟨j, hj, e⟩ := List.getElem_of_mem hy
        have h6 : endsT.length = 6 := rfl
        have := hnx j (by omega)
        rw [List.getD_eq_getElem?_getD, List.getElem?_eq_getElem hj] at this
        rw [← e]; exact this
      simp only [wk, wt, wl, ↓reduceIte, Nat.reduceEqDiff, Nat.reduceAdd, Nat.zero_add, not_false_eq_true, not_true_eq_false]
      rw [hf]
      exact ⟨rfl, K⟩
theorem refNext_ok {v : Value} {b : List Int} {h : Heap} (hv : RdI prog h .u8 v b) (hb : ∀ x, x ∈ b → isB x) (hl : b.length ≤ 9223372036854775807) :
    ACalls prog 21 #[v] h (fun x h' => x = nextT b ∧ Keeps h h') := by
  refine acalls_of_W' func21 rfl (by kernel_rfl) (by kernel_rfl) (by simp [ntmps21]) ?_
  intro H
  simp only [wk, wt, wl, ↓reduceIte, Nat.reduceEqDiff, Nat.reduceAdd, Nat.zero_add, not_false_eq_true, not_true_eq_false]
  refine (whole_ok hv hb hl).use ?_
  rintro _ h2 ⟨rfl, K2⟩
  cases hw : wholeZ b with
  | some p =>
    have hn : nextZ b = some p := by
      simp only [wholeZ] at hw
      split at hw
      · split at hw
        · cases hw
        · rename_i h1 _; rw [h1]; exact hw
      · cases hw
    simp only [wholeT, hw, nextT, hn]
    simp only [wk, wt, wl, ↓reduceIte, Nat.reduceEqDiff, Nat.reduceAdd, Nat.zero_add, not_false_eq_true, not_true_eq_false]
    exact K2
  | none =>
    simp only [wholeT, hw]
    simp only [wk, wt, wl, ↓reduceIte, Nat.reduceEqDiff, Nat.reduceAdd, Nat.zero_add, not_false_eq_true, not_true_eq_false, RdI.len (hv.keeps K2) underlying22]
    by_cases h0 : b = []
    · subst h0
      have d0 : decide (((([] : List Int)).length : Int) = 0) = true := rfl
      simp only [wk, wt, wl, ↓reduceIte, Nat.reduceEqDiff, Nat.reduceAdd, Nat.zero_add, not_false_eq_true, not_true_eq_false, d0]
      exact ⟨rfl, K2⟩
    · have d0 : decide ((b.length : Int) = 0) = false := decide_eq_false (by
        intro e
        exact h0 (List.eq_nil_of_length_eq_zero (by omega)))
      simp only [wk, wt, wl, ↓reduceIte, Nat.reduceEqDiff, Nat.reduceAdd, Nat.zero_add, not_false_eq_true, not_true_eq_false, d0]
      refine (begins_ok 4 (by omega) (hv.keeps K2) hb).use ?_
      rintro _ h3 ⟨rfl, K3⟩
      cases hn : nextZ b with
      | none =>
        have e : beginsZ b = true := decide_eq_true ⟨h0, hn⟩
        simp only [nextT, hn]
        simp only [wk, wt, wl, ↓reduceIte, Nat.reduceEqDiff, Nat.reduceAdd, Nat.zero_add, not_false_eq_true, not_true_eq_false, e]
        exact K2.trans K3
      | some p =>
        have e : beginsZ b = false := decide_eq_false fun e => by rw [hn] at e; cases e.2
        have hp : p = (65533, 1) := by
          simp only [wholeZ, hn] at hw
          split at hw
          · assumption
          · cases hw
        subst hp
        simp only [nextT, hn]
        simp only [wk, wt, wl, ↓reduceIte, Nat.reduceEqDiff, Nat.reduceAdd, Nat.zero_add, not_false_eq_true, not_true_eq_false, e]
        exact ⟨rfl, K2.trans K3⟩
end Go.Proofs.Ytgllmnckphbkeaa.Am
