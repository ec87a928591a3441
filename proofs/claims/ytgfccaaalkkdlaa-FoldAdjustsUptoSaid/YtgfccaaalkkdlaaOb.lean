/- Folds: the fold that a line is in; what is shown with it: contracts of fold.find, at, shown, Head, Next, Prev and of the document's, by walks. -/
import Derived.Test.YtgfccaaalkkdlaaOa
set_option linter.unusedSimpArgs false
set_option linter.unusedVariables false
set_option maxHeartbeats 2000000
namespace Go.Proofs.Ytgfccaaalkkdlaa.Am
open Go Go.RowKit Go.Proofs.Try
theorem rightGo_at : ∀ {l : List F} {e : Int}, rightGo e l = true → (∀ (j : Nat) g, l[j]? = some g → e < g.fr ∧ g.fr < g.to) ∧ ∀ (i j : Nat) f g, i < j → l[i]? = some f → l[j]? = some g → f.to < g.fr
  | [], e, _ => ⟨fun j g h => by simp at h, fun i j f g _ h => by simp at h⟩
  | x :: l, e, h => by
    simp only [rightGo] at h
    split at h
    · cases h
    · rename_i hc
      obtain ⟨h1, h2⟩ := rightGo_at h
      refine ⟨fun j g hg => ?_, fun i j f g hij hf hg => ?_⟩
      · cases j with
        | zero => simp at hg; subst hg; omega
        | succ j => simp at hg; have := h1 j g hg; omega
      · cases j with
        | zero => omega
        | succ j =>
          simp at hg
          cases i with
          | zero => simp at hf; subst hf; exact (h1 j g hg).1
          | succ i => simp at hf; exact h2 i j f g (by omega) hf hg
theorem rightB_at {l : List F} (h : rightB l = true) : (∀ (j : Nat) g, l[j]? = some g → 0 ≤ g.fr ∧ g.fr < g.to) ∧ (∀ (i j : Nat) f g, i < j → l[i]? = some f → l[j]? = some g → f.to < g.fr) ∧ l.length ≤ 64 := by
  simp only [rightB, Bool.and_eq_true, decide_eq_true_eq] at h
  obtain ⟨h1, h2⟩ := rightGo_at h.1
  exact ⟨fun j g hg => by have := h1 j g hg; omega, h2, h.2⟩
def inGo (k : Nat) : List F → Int → Option Nat
  | [], _ => none
  | f :: l, x => if f.fr ≤ x ∧ x ≤ f.to then some k else inGo (k + 1) l x
def inF (l : List F) (x : Int) : Option Nat := inGo 0 l x
theorem inGo_some : ∀ {l : List F} {k j : Nat} {x : Int}, inGo k l x = some j → k ≤ j ∧ ∃ f, l[j - k]? = some f ∧ f.fr ≤ x ∧ x ≤ f.to
  | [], k, j, x, h => by simp [inGo] at h
  | f :: l, k, j, x, h => by
    simp only [inGo] at h
    split at h
    · rename_i hc
      simp only [Option.some.injEq] at h; subst h
      exact ⟨Nat.le_refl _, f, by simp, hc⟩
    · obtain ⟨h1, g, h2, h3⟩ := inGo_some h
      refine ⟨by omega, g, ?_, h3⟩
      rw [show j - k = (j - (k + 1)) + 1 by omega, List.getElem?_cons_succ]; exact h2
theorem inGo_none : ∀ {l : List F} {k : Nat} {x : Int}, inGo k l x = none → ∀ (j : Nat) f, l[j]? = some f → ¬ (f.fr ≤ x ∧ x ≤ f.to)
  | [], k, x, _, j, f, h => by simp at h
  | g :: l, k, x, h, j, f, hf => by
    simp only [inGo] at h
    split at h
    · cases h
    · rename_i hc
      cases j with
      | zero => simp at hf; subst hf; exact hc
      | succ j => exact inGo_none h j f (by simpa using hf)
theorem inF_some {l : List F} {j : Nat} {x : Int} (h : inF l x = some j) : ∃ f, l[j]? = some f ∧ f.fr ≤ x ∧ x ≤ f.to := by
  simpa using (inGo_some h).2
/-- Of right folds: the first that ends at a line or behind it tells. -/
theorem inF_find {l : List F} (hr : rightB l = true) {x : Int} {i : Nat} (h1 : ∀ (j : Nat) f, j < i → l[j]? = some f → f.to < x) (h2 : ∀ f, l[i]? = some f → x ≤ f.to) :
    inF l x = match l[i]? with | some f => if f.fr ≤ x then some i else none | none => none := by
  obtain ⟨g1, g2, _⟩ := rightB_at hr
  have uniq : ∀ j, inF l x = some j → j = i := fun j hj => by
    obtain ⟨f, hf, hfx, hxf⟩ := inF_some hj
    rcases Nat.lt_trichotomy j i with hlt | he | hgt
    · have := h1 j f hlt hf; omega
    · exact he
    · have hi : i < l.length := by have := (List.getElem?_eq_some_iff.1 hf).1; omega
      have hg : l[i]? = some l[i] := by simp [hi]
      have := g2 i j _ f hgt hg hf
      have := h2 _ hg
      omega
  cases hin : inF l x with
  | some j =>
    obtain rfl := uniq j hin
    obtain ⟨f, hf, hfx, _⟩ := inF_some hin
    rw [hf]; simp [hfx]
  | none =>
    cases hg : l[i]? with
    | none => rfl
    | some f =>
      have := inGo_none hin i f hg
      have := h2 f hg
      simp only
      rw [if_neg (by omega)]
def idxV : Option Nat → Int
  | some k => k
  | none => -1
theorem refIn_ok {v : Value} {l : List F} {x : Int} {h : Heap} (R : FR h v l) (hl : l.length ≤ 9223372036854775807) : ACalls prog 37 #[v, .int .i64 x] h (fun y h' => y = .int .i64 (idxV (inF l x)) ∧ h' = h) := by
  refine acalls_of_W func37 rfl (by kernel_rfl) (by kernel_rfl) (by simp [ntmps37]) ?_
  simp only [wk, wt, wl, ↓reduceIte, Nat.reduceEqDiff, Nat.reduceAdd, Nat.zero_add, not_false_eq_true, not_true_eq_false]
  refine W_loop (fun tm h' => h' = h ∧ tm 0 = v ∧ tm 1 = .int .i64 x ∧ ∃ (i : Nat), tm 5 = .int .i64 i ∧ i ≤ l.length ∧ inF l x = inGo i (l.drop i) x) (fun tm _ => (l.length - intOf (tm 5)).toNat) ⟨rfl, (by first | rfl | (simp only [wk, wt, wl, ↓reduceIte, Nat.reduceEqDiff, Nat.reduceAdd, Nat.zero_add, not_false_eq_true, not_true_eq_false]; done) | (simp only [wk, wt, wl, ↓reduceIte, Nat.reduceEqDiff, Nat.reduceAdd, Nat.zero_add, not_false_eq_true, not_true_eq_false]; rfl)), (by first | rfl | (simp only [wk, wt, wl, ↓reduceIte, Nat.reduceEqDiff, Nat.reduceAdd, Nat.zero_add, not_false_eq_true, not_true_eq_false]; done) | (simp only [wk, wt, wl, ↓reduceIte, Nat.reduceEqDiff, Nat.reduceAdd, Nat.zero_add, not_false_eq_true, not_true_eq_false]; rfl)), 0, (by first | rfl | (simp only [wk, wt, wl, ↓reduceIte, Nat.reduceEqDiff, Nat.reduceAdd, Nat.zero_add, not_false_eq_true, not_true_eq_false]; done) | (simp only [wk, wt, wl, ↓reduceIte, Nat.reduceEqDiff, Nat.reduceAdd, Nat.zero_add, not_false_eq_true, not_true_eq_false]; rfl)), by omega, rfl⟩ ?_
  rintro tm h' ⟨rfl, t0, t1, i, t5, hi, hg⟩
  simp only [wk, wt, wl, ↓reduceIte, Nat.reduceEqDiff, Nat.reduceAdd, Nat.zero_add, not_false_eq_true, not_true_eq_false, t0, t1, t5, R.len underlying22]
  refine condK_dec (fun hd => ?_) (fun hd => ?_)
  · have hi1 : i < l.length := by omega
    obtain ⟨f, hx⟩ : ∃ f, l[i]? = some f := ⟨l[i], by simp [hi1]⟩
    obtain ⟨F0, F1, F2, F3⟩ := R.flds hx
    have IX := Rd.index R underlying22 asz36 (q := .i64) (i := (i : Int)) (by omega) (by omega)
    simp only [Int.toNat_natCast] at IX
    rw [drop_at hx] at hg
    simp only [inGo] at hg
    by_cases h1 : f.fr ≤ x
    · have d1 : decide (f.fr ≤ x) = true := decide_eq_true h1
      by_cases h2 : x ≤ f.to
      · have d2 : decide (x ≤ f.to) = true := decide_eq_true h2
        rw [if_pos ⟨h1, h2⟩] at hg
        simp (disch := omega) only [wk, wt, wl, ↓reduceIte, Nat.reduceEqDiff, Nat.reduceAdd, Nat.zero_add, not_false_eq_true, not_true_eq_false, t0, t1, t5, IX, F0, F1, d1, d2]
        rw [hg]; exact ⟨rfl, trivial⟩
      · have d2 : decide (x ≤ f.to) = false := decide_eq_false h2
        rw [if_neg (by omega)] at hg
        simp (disch := omega) only [wk, wt, wl, ↓reduceIte, Nat.reduceEqDiff, Nat.reduceAdd, Nat.zero_add, not_false_eq_true, not_true_eq_false, t0, t1, t5, IX, F0, F1, d1, d2, IntWalk.i64_in, intOf_int]
        exact ⟨⟨i + 1, by simp, by omega, hg⟩, by omega⟩
    · have d1 : decide (f.fr ≤ x) = false := decide_eq_false h1
      rw [if_neg (by omega)] at hg
      simp (disch := omega) only [wk, wt, wl, ↓reduceIte, Nat.reduceEqDiff, Nat.reduceAdd, Nat.zero_add, not_false_eq_true, not_true_eq_false, t0, t1, t5, IX, F0, F1, d1, IntWalk.i64_in, intOf_int]
      exact ⟨⟨i + 1, by simp, by omega, hg⟩, by omega⟩
  · rw [List.drop_of_length_le (by omega)] at hg
    simp only [wk, wt, wl, ↓reduceIte, Nat.reduceEqDiff, Nat.reduceAdd, Nat.zero_add, not_false_eq_true, not_true_eq_false]
    simp [hg, inGo, idxV]
def shutF (l : List F) (x : Int) : Option Nat := (inF l x).bind fun k => if (l[k]?).any (·.cl) = true then some k else none
theorem refShut_ok {v : Value} {l : List F} {x : Int} {h : Heap} (R : FR h v l) (hl : l.length ≤ 9223372036854775807) : ACalls prog 30 #[v, .int .i64 x] h (fun y h' => y = .int .i64 (idxV (shutF l x)) ∧ h' = h) := by
  refine acalls_of_W func30 rfl (by kernel_rfl) (by kernel_rfl) (by simp [ntmps30]) ?_
  simp only [wk, wt, wl, ↓reduceIte, Nat.reduceEqDiff, Nat.reduceAdd, Nat.zero_add, not_false_eq_true, not_true_eq_false]
  refine (refIn_ok R hl).use_pure ?_
  cases hin : inF l x with
  | none =>
    have d0 : decide (0 ≤ (-1 : Int)) = false := by decide
    simp only [wk, wt, wl, ↓reduceIte, Nat.reduceEqDiff, Nat.reduceAdd, Nat.zero_add, not_false_eq_true, not_true_eq_false, idxV, d0]
    simp [shutF, hin, idxV]
  | some k =>
    obtain ⟨f, hx, _⟩ := inF_some hin
    have hk := (List.getElem?_eq_some_iff.1 hx).1
    obtain ⟨F0, F1, F2, F3⟩ := R.flds hx
    have IX := Rd.index R underlying22 asz36 (q := .i64) (i := (k : Int)) (by omega) (by omega)
    simp only [Int.toNat_natCast] at IX
    have d0 : decide (0 ≤ (k : Int)) = true := decide_eq_true (by omega)
    cases hcl : f.cl with
    | true =>
      rw [hcl] at F2
      simp only [wk, wt, wl, ↓reduceIte, Nat.reduceEqDiff, Nat.reduceAdd, Nat.zero_add, not_false_eq_true, not_true_eq_false, idxV, d0, IX, F2, Bool.not_true]
      simp [shutF, hin, hx, hcl, idxV]
    | false =>
      rw [hcl] at F2
      simp only [wk, wt, wl, ↓reduceIte, Nat.reduceEqDiff, Nat.reduceAdd, Nat.zero_add, not_false_eq_true, not_true_eq_false, idxV, d0, IX, F2, Bool.not_false]
      simp [shutF, hin, hx, hcl, idxV]
def shownZ (l : List F) (x : Int) : Int × Int :=
  if rightB l = true then (match shutF l x with | some k => (match l[k]? with | some f => (f.fr, f.to) | none => (x, x)) | none => (x, x)) else (x, x)
theorem shutF_some {l : List F} {x : Int} {k : Nat} (h : shutF l x = some k) : ∃ f, l[k]? = some f ∧ f.cl = true ∧ f.fr ≤ x ∧ x ≤ f.to ∧ inF l x = some k := by
  unfold shutF at h
  cases hin : inF l x with
  | none => rw [hin] at h; cases h
  | some j =>
    obtain ⟨f, hx, h1, h2⟩ := inF_some hin
    rw [hin] at h
    simp only [Option.bind_some, hx, Option.any_some] at h
    split at h
    · cases h; exact ⟨f, hx, by assumption, h1, h2, rfl⟩
    · cases h
theorem shownZ_range {l : List F} {x : Int} : shownZ l x = (x, x) ∨ ∃ (k : Nat) (f : F), shutF l x = some k ∧ rightB l = true ∧ l[k]? = some f ∧ f.cl = true ∧ f.fr ≤ x ∧ x ≤ f.to ∧ shownZ l x = (f.fr, f.to) := by
  unfold shownZ
  split
  · rename_i hr
    cases hs : shutF l x with
    | none => exact .inl rfl
    | some k =>
      obtain ⟨f, hx, h1, h2, h3, _⟩ := shutF_some hs
      exact .inr ⟨k, f, rfl, hr, hx, h1, h2, h3, by simp [hx]⟩
  · exact .inl rfl
theorem refHead_ok {v : Value} {l : List F} {x : Int} {h : Heap} (R : FR h v l) (hl : l.length ≤ 9223372036854775807) : ACalls prog 10 #[v, .int .i64 x] h (fun y h' => y = .int .i64 (shownZ l x).1 ∧ h' = h) := by
  refine acalls_of_W func10 rfl (by kernel_rfl) (by kernel_rfl) (by simp [ntmps10]) ?_
  simp only [wk, wt, wl, ↓reduceIte, Nat.reduceEqDiff, Nat.reduceAdd, Nat.zero_add, not_false_eq_true, not_true_eq_false]
  refine (refRight_ok R hl).use_pure ?_
  have d1 : decide ((-1 : Int) < 0) = true := by decide
  cases hr : rightB l with
  | false =>
    simp only [wk, wt, wl, ↓reduceIte, Nat.reduceEqDiff, Nat.reduceAdd, Nat.zero_add, not_false_eq_true, not_true_eq_false, d1]
    simp [shownZ, hr]
  | true =>
    simp only [wk, wt, wl, ↓reduceIte, Nat.reduceEqDiff, Nat.reduceAdd, Nat.zero_add, not_false_eq_true, not_true_eq_false]
    refine (refShut_ok R hl).use_pure ?_
    cases hs : shutF l x with
    | none =>
      simp only [wk, wt, wl, ↓reduceIte, Nat.reduceEqDiff, Nat.reduceAdd, Nat.zero_add, not_false_eq_true, not_true_eq_false, idxV, d1]
      simp [shownZ, hr, hs]
    | some k =>
      obtain ⟨f, hx, _⟩ := shutF_some hs
      have hk := (List.getElem?_eq_some_iff.1 hx).1
      obtain ⟨F0, F1, F2, F3⟩ := R.flds hx
      have IX := Rd.index R underlying22 asz36 (q := .i64) (i := (k : Int)) (by omega) (by omega)
      simp only [Int.toNat_natCast] at IX
      have d0 : decide ((k : Int) < 0) = false := decide_eq_false (by omega)
      simp only [wk, wt, wl, ↓reduceIte, Nat.reduceEqDiff, Nat.reduceAdd, Nat.zero_add, not_false_eq_true, not_true_eq_false, idxV, d0, IX, F0]
      simp [shownZ, hr, hs, hx]
theorem refNext_ok {v : Value} {l : List F} {x : Int} {h : Heap} (R : FR h v l) (hl : l.length ≤ 9223372036854775807) (hn : nearF l = true) (hx2 : -2199023255552 ≤ x ∧ x ≤ 2199023255552) : ACalls prog 12 #[v, .int .i64 x] h (fun y h' => y = .int .i64 ((shownZ l x).2 + 1) ∧ h' = h) := by
  refine acalls_of_W func12 rfl (by kernel_rfl) (by kernel_rfl) (by simp [ntmps12]) ?_
  simp only [wk, wt, wl, ↓reduceIte, Nat.reduceEqDiff, Nat.reduceAdd, Nat.zero_add, not_false_eq_true, not_true_eq_false]
  refine (refRight_ok R hl).use_pure ?_
  have d1 : decide ((-1 : Int) < 0) = true := by decide
  cases hr : rightB l with
  | false =>
    simp (disch := omega) only [wk, wt, wl, ↓reduceIte, Nat.reduceEqDiff, Nat.reduceAdd, Nat.zero_add, not_false_eq_true, not_true_eq_false, d1, IntWalk.i64_in]
    simp [shownZ, hr]
  | true =>
    simp only [wk, wt, wl, ↓reduceIte, Nat.reduceEqDiff, Nat.reduceAdd, Nat.zero_add, not_false_eq_true, not_true_eq_false]
    refine (refShut_ok R hl).use_pure ?_
    cases hs : shutF l x with
    | none =>
      simp (disch := omega) only [wk, wt, wl, ↓reduceIte, Nat.reduceEqDiff, Nat.reduceAdd, Nat.zero_add, not_false_eq_true, not_true_eq_false, idxV, d1, IntWalk.i64_in]
      simp [shownZ, hr, hs]
    | some k =>
      obtain ⟨f, hx, _, h3, h4, _⟩ := shutF_some hs
      have hk := (List.getElem?_eq_some_iff.1 hx).1
      have hnf := nearF_at hn hx
      obtain ⟨F0, F1, F2, F3⟩ := R.flds hx
      have IX := Rd.index R underlying22 asz36 (q := .i64) (i := (k : Int)) (by omega) (by omega)
      simp only [Int.toNat_natCast] at IX
      have d0 : decide ((k : Int) < 0) = false := decide_eq_false (by omega)
      simp (disch := omega) only [wk, wt, wl, ↓reduceIte, Nat.reduceEqDiff, Nat.reduceAdd, Nat.zero_add, not_false_eq_true, not_true_eq_false, idxV, d0, IX, F1, IntWalk.i64_in]
      simp [shownZ, hr, hs, hx]
theorem cmp_ok {f : F} {x : Int} {h : Heap} : ACalls prog 39 #[.agg #[.int .i64 f.fr, .int .i64 f.to, .bool f.cl], .int .i64 x] h (fun y h' => y = .int .i64 (if f.to < x then -1 else 1) ∧ Keeps h h') := by
  refine acalls_of_W' func39 rfl (by kernel_rfl) (by kernel_rfl) (by simp [ntmps39]) ?_
  intro H
  have K0 := Keeps.new H 36 [.int .i64 f.fr, .int .i64 f.to, .bool f.cl]
  have V0 := Var.new (e := 36) H (cs := [.int .i64 f.fr, .int .i64 f.to, .bool f.cl])
  have hb : ∀ tm : Tm, tm 0 = .agg #[.int .i64 f.fr, .int .i64 f.to, .bool f.cl] → aeff prog tm h (.box 36 (.tmp 0)) = some (.pointer (some ⟨h.size, 0, none⟩), h.new 36 [.int .i64 f.fr, .int .i64 f.to, .bool f.cl]) := fun tm ht => box_new (by simp [ev, ht, Value.cells]) ⟨_, asz36⟩ (by simp only [ev, ht, Value.cells]; simp [one])
  have W1 := V0.load1 (P := prog) (t := 3) underlying3 rfl (i := 1)
  simp only [List.getElem?_cons_succ, List.getElem?_cons_zero] at W1
  simp only [wk, wt, wl, ↓reduceIte, Nat.reduceEqDiff, Nat.reduceAdd, Nat.zero_add, not_false_eq_true, not_true_eq_false, hb (atm #[.agg #[.int .i64 f.fr, .int .i64 f.to, .bool f.cl], .int .i64 x]) rfl, W1]
  refine condK_dec (fun hc => ?_) (fun hc => ?_)
  · simp only [wk, wt, wl, ↓reduceIte, Nat.reduceEqDiff, Nat.reduceAdd, Nat.zero_add, not_false_eq_true, not_true_eq_false]
    rw [if_pos hc]; exact ⟨rfl, K0⟩
  · simp only [wk, wt, wl, ↓reduceIte, Nat.reduceEqDiff, Nat.reduceAdd, Nat.zero_add, not_false_eq_true, not_true_eq_false]
    rw [if_neg hc]; exact ⟨rfl, K0⟩
theorem shr1 {P : Program} {t : TypeId} {x : Int} (h : 0 ≤ x) : abin P .shr t (.int .u64 x) (.int .u64 1) = some (.int .u64 (x / 2)) := by
  simp [abin, ashift, IntKind.bits, Int.fdiv_eq_ediv_of_nonneg]
theorem search_ok {v : Value} {l : List F} {x : Int} {h : Heap} (R : FR h v l) (hr : rightB l = true) :
    ACalls prog 38 #[v, .int .i64 x, .func (.func 39) #[] #[]] h
      (fun y h' => ∃ i : Nat, y = .tuple #[.int .i64 i, .bool false] ∧ i ≤ l.length ∧ (∀ (j : Nat) f, j < i → l[j]? = some f → f.to < x) ∧ (∀ f, l[i]? = some f → x ≤ f.to) ∧ Keeps h h') := by
  obtain ⟨r1, r2, r3⟩ := rightB_at hr
  have sorted : ∀ (i j : Nat) f g, i ≤ j → l[i]? = some f → l[j]? = some g → f.to ≤ g.to := fun i j f g hij hf hg => by
    rcases Nat.lt_or_eq_of_le hij with hlt | rfl
    · have := r2 i j f g hlt hf hg; have := r1 j g hg; omega
    · rw [hf] at hg; cases hg; exact Int.le_refl _
  refine acalls_of_W' func38 rfl (by kernel_rfl) (by kernel_rfl) (by simp [ntmps38]) ?_
  intro H
  simp only [wk, wt, wl, ↓reduceIte, Nat.reduceEqDiff, Nat.reduceAdd, Nat.zero_add, not_false_eq_true, not_true_eq_false, R.len underlying22]
  refine W_loop (fun tm h' => Keeps h h' ∧ tm 0 = v ∧ tm 1 = .int .i64 x ∧ tm 2 = .func (.func 39) #[] #[] ∧ tm 8 = .int .i64 l.length ∧ ∃ (i j : Nat), tm 9 = .int .i64 i ∧ tm 10 = .int .i64 j ∧ i ≤ j ∧ j ≤ l.length ∧ (∀ (k : Nat) f, k < i → l[k]? = some f → f.to < x) ∧ (∀ (k : Nat) f, j ≤ k → l[k]? = some f → x ≤ f.to))
    (fun tm _ => (intOf (tm 10) - intOf (tm 9)).toNat) ⟨Keeps.refl H, (by first | rfl | (simp only [wk, wt, wl, ↓reduceIte, Nat.reduceEqDiff, Nat.reduceAdd, Nat.zero_add, not_false_eq_true, not_true_eq_false]; done) | (simp only [wk, wt, wl, ↓reduceIte, Nat.reduceEqDiff, Nat.reduceAdd, Nat.zero_add, not_false_eq_true, not_true_eq_false]; rfl)), (by first | rfl | (simp only [wk, wt, wl, ↓reduceIte, Nat.reduceEqDiff, Nat.reduceAdd, Nat.zero_add, not_false_eq_true, not_true_eq_false]; done) | (simp only [wk, wt, wl, ↓reduceIte, Nat.reduceEqDiff, Nat.reduceAdd, Nat.zero_add, not_false_eq_true, not_true_eq_false]; rfl)), (by first | rfl | (simp only [wk, wt, wl, ↓reduceIte, Nat.reduceEqDiff, Nat.reduceAdd, Nat.zero_add, not_false_eq_true, not_true_eq_false]; done) | (simp only [wk, wt, wl, ↓reduceIte, Nat.reduceEqDiff, Nat.reduceAdd, Nat.zero_add, not_false_eq_true, not_true_eq_false]; rfl)), (by first | rfl | (simp only [wk, wt, wl, ↓reduceIte, Nat.reduceEqDiff, Nat.reduceAdd, Nat.zero_add, not_false_eq_true, not_true_eq_false]; done) | (simp only [wk, wt, wl, ↓reduceIte, Nat.reduceEqDiff, Nat.reduceAdd, Nat.zero_add, not_false_eq_true, not_true_eq_false]; rfl)), 0, l.length, (by first | rfl | (simp only [wk, wt, wl, ↓reduceIte, Nat.reduceEqDiff, Nat.reduceAdd, Nat.zero_add, not_false_eq_true, not_true_eq_false]; done) | (simp only [wk, wt, wl, ↓reduceIte, Nat.reduceEqDiff, Nat.reduceAdd, Nat.zero_add, not_false_eq_true, not_true_eq_false]; rfl)), (by first | rfl | (simp only [wk, wt, wl, ↓reduceIte, Nat.reduceEqDiff, Nat.reduceAdd, Nat.zero_add, not_false_eq_true, not_true_eq_false]; done) | (simp only [wk, wt, wl, ↓reduceIte, Nat.reduceEqDiff, Nat.reduceAdd, Nat.zero_add, not_false_eq_true, not_true_eq_false]; rfl)), Nat.zero_le _, Nat.le_refl _, fun k f hk => by omega, fun k f hk hf => by have := (List.getElem?_eq_some_iff.1 hf).1; omega⟩ ?_
  rintro tm h' ⟨K, t0, t1, t2, t8, i, j, t9, t10, hij, hjl, hA, hB⟩
  have R' : FR h' v l := R.keeps K
  simp only [wk, wt, wl, ↓reduceIte, Nat.reduceEqDiff, Nat.reduceAdd, Nat.zero_add, not_false_eq_true, not_true_eq_false, t0, t1, t2, t9, t10]
  refine condK_dec (fun hd => ?_) (fun hd => ?_)
  · obtain ⟨m, hm⟩ : ∃ m : Nat, m = (i + j) / 2 := ⟨_, rfl⟩
    have hm1 : ((i : Int) + j) / 2 = (m : Int) := by omega
    have hml : m < l.length := by omega
    obtain ⟨f, hx⟩ : ∃ f, l[m]? = some f := ⟨l[m], by simp [hml]⟩
    obtain ⟨F0, F1, F2, F3⟩ := R'.flds hx
    have IX := Rd.index R' underlying22 asz36 (q := .i64) (i := (m : Int)) (by omega) (by omega)
    simp only [Int.toNat_natCast] at IX
    simp (disch := omega) only [wk, wt, wl, ↓reduceIte, Nat.reduceEqDiff, Nat.reduceAdd, Nat.zero_add, not_false_eq_true, not_true_eq_false, t0, t1, t2, t9, t10, aconv, IntWalk.i64_in, IntWalk.u64_in, shr1, hm1, IX, F3, callV_func, body39]
    refine cmp_ok.use ?_
    rintro _ h2 ⟨rfl, K2⟩
    have K02 := K.trans K2
    by_cases hc : f.to < x
    · have d1 : decide ((-1 : Int) < 0) = true := by decide
      rw [if_pos hc]
      simp (disch := omega) only [wk, wt, wl, ↓reduceIte, Nat.reduceEqDiff, Nat.reduceAdd, Nat.zero_add, not_false_eq_true, not_true_eq_false, t0, t1, t2, t8, t9, t10, d1, IntWalk.i64_in, intOf_int]
      refine ⟨⟨K02, m + 1, j, by simp, rfl, by omega, hjl, fun k g hk hg => ?_, hB⟩, by omega⟩
      have := sorted k m g f (by omega) hg hx; omega
    · have d1 : decide ((1 : Int) < 0) = false := by decide
      rw [if_neg hc]
      simp (disch := omega) only [wk, wt, wl, ↓reduceIte, Nat.reduceEqDiff, Nat.reduceAdd, Nat.zero_add, not_false_eq_true, not_true_eq_false, t0, t1, t2, t8, t9, t10, d1, IntWalk.i64_in, intOf_int]
      refine ⟨⟨K02, i, m, rfl, rfl, by omega, by omega, hA, fun k g hk hg => ?_⟩, by omega⟩
      have := sorted m k f g hk hx hg; omega
  · have hije : i = j := by omega
    subst hije
    by_cases hil : i < l.length
    · have d1 : decide ((i : Int) < l.length) = true := decide_eq_true (by omega)
      obtain ⟨f, hx⟩ : ∃ f, l[i]? = some f := ⟨l[i], by simp [hil]⟩
      obtain ⟨F0, F1, F2, F3⟩ := R'.flds hx
      have IX := Rd.index R' underlying22 asz36 (q := .i64) (i := (i : Int)) (by omega) (by omega)
      simp only [Int.toNat_natCast] at IX
      simp only [wk, wt, wl, ↓reduceIte, Nat.reduceEqDiff, Nat.reduceAdd, Nat.zero_add, not_false_eq_true, not_true_eq_false, t0, t1, t2, t8, t9, d1, IX, F3, callV_func, body39]
      refine cmp_ok.use ?_
      rintro _ h2 ⟨rfl, K2⟩
      have d2 : decide ((if f.to < x then (-1 : Int) else 1) = 0) = false := decide_eq_false (by split <;> omega)
      simp only [wk, wt, wl, ↓reduceIte, Nat.reduceEqDiff, Nat.reduceAdd, Nat.zero_add, not_false_eq_true, not_true_eq_false, d2]
      exact ⟨i, rfl, hjl, hA, fun g hg => hB i g (Nat.le_refl _) hg, K.trans K2⟩
    · have d1 : decide ((i : Int) < l.length) = false := decide_eq_false (by omega)
      simp only [wk, wt, wl, ↓reduceIte, Nat.reduceEqDiff, Nat.reduceAdd, Nat.zero_add, not_false_eq_true, not_true_eq_false, t8, t9, d1]
      exact ⟨i, rfl, hjl, hA, fun g hg => hB i g (Nat.le_refl _) hg, K⟩
end Go.Proofs.Ytgfccaaalkkdlaa.Am
