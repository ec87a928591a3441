/- The texts of this seat, one behind another (part 5 of 10): the frame (an abstract machine), the contracts of functions, the laws. -/
import Derived.Test.YtmjdebeikcogkaaDoorZ1
import Derived.Test.YtmjdebeikcogkaaDoorAmRecs
import Derived.Test.YtmjdebeikcogkaaDoorAmF
section
/- Folds: which are right, which a line is in: contracts of fold.Right, find, at, shown, of the document's Right, in, shut and of the law's near, by walks. -/
set_option linter.unusedSimpArgs false
set_option linter.unusedVariables false
set_option maxHeartbeats 2000000
namespace Go.Proofs.YtmjdebeikcogkaaDoor.Am
open Go Go.RowKit Go.Proofs.Tryd
structure F where
  fr : Int
  to : Int
  cl : Bool
def cF (x : F) : List Value := [.int .i64 x.fr, .int .i64 x.to, .bool x.cl]
theorem cF_len : ∀ x, (cF x).length = 3 := fun _ => rfl
abbrev FR (h : Heap) (v : Value) (l : List F) : Prop := RS prog h 3 cF v l
def rightGo : Int → List F → Bool
  | _, [] => true
  | e, f :: l => if f.fr ≤ e ∨ f.to ≤ f.fr then false else rightGo f.to l
def rightB (l : List F) : Bool := rightGo (-1) l && decide (l.length ≤ 64)
theorem dropAt {α : Type} {us : List α} {j : Nat} {u : α} (h : us[j]? = some u) : us.drop j = u :: us.drop (j + 1) := by
  obtain ⟨hj, e⟩ := List.getElem?_eq_some_iff.1 h
  rw [List.drop_eq_getElem_cons hj, e]
theorem FR.flds {h : Heap} {v : Value} {l : List F} (R : FR h v l) {i : Nat} {x : F} (hx : l[i]? = some x) :
    aload prog h 3 ⟨(eltA v 3 i).block, (eltA v 3 i).off + 0, none⟩ = some (.int .i64 x.fr) ∧ aload prog h 3 ⟨(eltA v 3 i).block, (eltA v 3 i).off + 1, none⟩ = some (.int .i64 x.to) ∧ aload prog h 4 ⟨(eltA v 3 i).block, (eltA v 3 i).off + 2, none⟩ = some (.bool x.cl) ∧
    aload prog h 56 (eltA v 3 i) = some (.agg #[.int .i64 x.fr, .int .i64 x.to, .bool x.cl]) :=
  ⟨R.fld cF_len underlying3 rfl hx (by decide), R.fld cF_len underlying3 rfl hx (by decide), R.fld cF_len underlying4 rfl hx (by decide), R.agg cF_len underlying56 rfl asz56 hx⟩
theorem refRight_ok {v : Value} {l : List F} {h : Heap} (R : FR h v l) (hl : l.length ≤ 9223372036854775807) : ACalls prog 17 #[v] h (fun x h' => x = .bool (rightB l) ∧ h' = h) := by
  refine acalls_of_W func17 rfl (by kernel_rfl) (by kernel_rfl) (by simp [ntmps17]) ?_
  simp only [wk, wt, wl, ↓reduceIte, Nat.reduceEqDiff, Nat.reduceAdd, Nat.zero_add, not_false_eq_true, not_true_eq_false]
  refine W_loop (fun tm h' => h' = h ∧ tm 0 = v ∧ ∃ (i : Nat) (e : Int), tm 4 = .int .i64 i ∧ tm 3 = .int .i64 e ∧ i ≤ l.length ∧ rightGo (-1) l = rightGo e (l.drop i)) (fun tm _ => (l.length - intOf (tm 4)).toNat) ⟨rfl, (by first | rfl | (simp only [wk, wt, wl, ↓reduceIte, Nat.reduceEqDiff, Nat.reduceAdd, Nat.zero_add, not_false_eq_true, not_true_eq_false]; done) | (simp only [wk, wt, wl, ↓reduceIte, Nat.reduceEqDiff, Nat.reduceAdd, Nat.zero_add, not_false_eq_true, not_true_eq_false]; rfl)), 0, -1, (by first | rfl | (simp only [wk, wt, wl, ↓reduceIte, Nat.reduceEqDiff, Nat.reduceAdd, Nat.zero_add, not_false_eq_true, not_true_eq_false]; done) | (simp only [wk, wt, wl, ↓reduceIte, Nat.reduceEqDiff, Nat.reduceAdd, Nat.zero_add, not_false_eq_true, not_true_eq_false]; rfl)), (by first | rfl | (simp only [wk, wt, wl, ↓reduceIte, Nat.reduceEqDiff, Nat.reduceAdd, Nat.zero_add, not_false_eq_true, not_true_eq_false]; done) | (simp only [wk, wt, wl, ↓reduceIte, Nat.reduceEqDiff, Nat.reduceAdd, Nat.zero_add, not_false_eq_true, not_true_eq_false]; rfl)), by omega, rfl⟩ ?_
  rintro tm h' ⟨rfl, t0, i, e, t4, t3, hi, hg⟩
  simp only [wk, wt, wl, ↓reduceIte, Nat.reduceEqDiff, Nat.reduceAdd, Nat.zero_add, not_false_eq_true, not_true_eq_false, t0, t3, t4, R.len underlying23]
  refine condK_dec (fun hd => ?_) (fun hd => ?_)
  · have hi1 : i < l.length := by omega
    obtain ⟨f, hx⟩ : ∃ f, l[i]? = some f := ⟨l[i], by simp [hi1]⟩
    obtain ⟨F0, F1, F2, F3⟩ := R.flds hx
    have IX := Rd.index R underlying23 asz56 (q := .i64) (i := (i : Int)) (by omega) (by omega)
    simp only [Int.toNat_natCast] at IX
    rw [dropAt hx] at hg
    simp only [rightGo] at hg
    simp only [wk, wt, wl, ↓reduceIte, Nat.reduceEqDiff, Nat.reduceAdd, Nat.zero_add, not_false_eq_true, not_true_eq_false]
    refine adraw_order [(0, false), (1, false), (2, false), (3, false), (4, false), (5, false), (6, false), (7, false), (8, false), (9, false), (10, false), (11, false), (12, false), (13, false), (14, false), (15, false), (16, false), (17, false), (18, false), (19, false)] mixed (by kernel_rfl) (by kernel_rfl) (by kernel_rfl) (by repeat (first | exact PF_retK | refine PF_thenK ?_ | refine PF_blockK ?_)) ?_
    by_cases hb : f.fr ≤ e ∨ f.to ≤ f.fr
    · rw [if_pos hb] at hg
      have fin : rightB l = false := by simp [rightB, hg]
      by_cases h1 : f.fr ≤ e
      · have d1 : decide (f.fr ≤ e) = true := decide_eq_true h1
        simp (disch := omega) only [wk, wt, wl, ↓reduceIte, Nat.reduceEqDiff, Nat.reduceAdd, Nat.zero_add, not_false_eq_true, not_true_eq_false, t0, t3, t4, IX, F0, F1, d1]
        rw [fin]; exact ⟨rfl, trivial⟩
      · have d1 : decide (f.fr ≤ e) = false := decide_eq_false h1
        have d2 : decide (f.to ≤ f.fr) = true := decide_eq_true (by omega)
        simp (disch := omega) only [wk, wt, wl, ↓reduceIte, Nat.reduceEqDiff, Nat.reduceAdd, Nat.zero_add, not_false_eq_true, not_true_eq_false, t0, t3, t4, IX, F0, F1, d1, d2]
        rw [fin]; exact ⟨rfl, trivial⟩
    · rw [if_neg hb] at hg
      have d1 : decide (f.fr ≤ e) = false := decide_eq_false (by omega)
      have d2 : decide (f.to ≤ f.fr) = false := decide_eq_false (by omega)
      simp (disch := omega) only [wk, wt, wl, ↓reduceIte, Nat.reduceEqDiff, Nat.reduceAdd, Nat.zero_add, not_false_eq_true, not_true_eq_false, t0, t3, t4, IX, F0, F1, d1, d2, IntWalk.i64_in, intOf_int]
      exact ⟨⟨i + 1, f.to, by simp, rfl, by omega, hg⟩, by omega⟩
  · rw [List.drop_of_length_le (by omega)] at hg
    simp only [wk, wt, wl, ↓reduceIte, Nat.reduceEqDiff, Nat.reduceAdd, Nat.zero_add, not_false_eq_true, not_true_eq_false, t0, R.len underlying23]
    simp only [rightB, hg, rightGo, Bool.true_and]
    refine ⟨?_, trivial⟩
    congr 1
    exact decide_eq_decide.2 (by omega)
theorem right_ok {v : Value} {l : List F} {h : Heap} (R : FR h v l) (hl : l.length ≤ 9223372036854775807) : ACalls prog 26 #[v] h (fun x h' => x = .bool (rightB l) ∧ Keeps h h') := by
  refine acalls_of_W' func26 rfl (by kernel_rfl) (by kernel_rfl) (by simp [ntmps26]) ?_
  intro H
  simp only [wk, wt, wl, ↓reduceIte, Nat.reduceEqDiff, Nat.reduceAdd, Nat.zero_add, not_false_eq_true, not_true_eq_false, R.len underlying23]
  refine W_loop (fun tm h' => Keeps h h' ∧ tm 0 = v ∧ tm 6 = v ∧ tm 7 = .int .i64 l.length ∧ ∃ (i : Nat) (e : Int), tm 8 = .int .i64 i ∧ tm 3 = .int .i64 e ∧ i ≤ l.length ∧ rightGo (-1) l = rightGo e (l.drop i)) (fun tm _ => (l.length - intOf (tm 8)).toNat) ⟨Keeps.refl H, (by first | rfl | (simp only [wk, wt, wl, ↓reduceIte, Nat.reduceEqDiff, Nat.reduceAdd, Nat.zero_add, not_false_eq_true, not_true_eq_false]; done) | (simp only [wk, wt, wl, ↓reduceIte, Nat.reduceEqDiff, Nat.reduceAdd, Nat.zero_add, not_false_eq_true, not_true_eq_false]; rfl)), (by first | rfl | (simp only [wk, wt, wl, ↓reduceIte, Nat.reduceEqDiff, Nat.reduceAdd, Nat.zero_add, not_false_eq_true, not_true_eq_false]; done) | (simp only [wk, wt, wl, ↓reduceIte, Nat.reduceEqDiff, Nat.reduceAdd, Nat.zero_add, not_false_eq_true, not_true_eq_false]; rfl)), (by first | rfl | (simp only [wk, wt, wl, ↓reduceIte, Nat.reduceEqDiff, Nat.reduceAdd, Nat.zero_add, not_false_eq_true, not_true_eq_false]; done) | (simp only [wk, wt, wl, ↓reduceIte, Nat.reduceEqDiff, Nat.reduceAdd, Nat.zero_add, not_false_eq_true, not_true_eq_false]; rfl)), 0, -1, (by first | rfl | (simp only [wk, wt, wl, ↓reduceIte, Nat.reduceEqDiff, Nat.reduceAdd, Nat.zero_add, not_false_eq_true, not_true_eq_false]; done) | (simp only [wk, wt, wl, ↓reduceIte, Nat.reduceEqDiff, Nat.reduceAdd, Nat.zero_add, not_false_eq_true, not_true_eq_false]; rfl)), (by first | rfl | (simp only [wk, wt, wl, ↓reduceIte, Nat.reduceEqDiff, Nat.reduceAdd, Nat.zero_add, not_false_eq_true, not_true_eq_false]; done) | (simp only [wk, wt, wl, ↓reduceIte, Nat.reduceEqDiff, Nat.reduceAdd, Nat.zero_add, not_false_eq_true, not_true_eq_false]; rfl)), by omega, rfl⟩ ?_
  rintro tm h' ⟨K, t0, t6, t7, i, e, t8, t3, hi, hg⟩
  have R' : FR h' v l := R.keeps K
  simp only [wk, wt, wl, ↓reduceIte, Nat.reduceEqDiff, Nat.reduceAdd, Nat.zero_add, not_false_eq_true, not_true_eq_false, t0, t3, t6, t7, t8]
  refine condK_dec (fun hd => ?_) (fun hd => ?_)
  · have hi1 : i < l.length := by omega
    obtain ⟨f, hx⟩ : ∃ f, l[i]? = some f := ⟨l[i], by simp [hi1]⟩
    obtain ⟨F0, F1, F2, F3⟩ := R'.flds hx
    have IX := Rd.index R' underlying23 asz56 (q := .i64) (i := (i : Int)) (by omega) (by omega)
    simp only [Int.toNat_natCast] at IX
    rw [dropAt hx] at hg
    simp only [rightGo] at hg
    simp (disch := omega) only [wk, wt, wl, ↓reduceIte, Nat.reduceEqDiff, Nat.reduceAdd, Nat.zero_add, not_false_eq_true, not_true_eq_false, t0, t3, t6, t7, t8, IX, F3]
    have K3 := Keeps.new (Ch.wf K) 56 [Value.int IntKind.i64 0, Value.int IntKind.i64 0, Value.bool false]
    have V3 := Var.new (e := 56) (Ch.wf K) (cs := [Value.int IntKind.i64 0, Value.int IntKind.i64 0, Value.bool false])
    obtain ⟨h4, e4, V4, C4, z4⟩ := V3.store (P := prog) (t := 56) (v := .agg #[.int .i64 f.fr, .int .i64 f.to, .bool f.cl]) (i := 0) (Ch.wf K3) asz56 (by simp [Value.cells]) (by simp [Value.cells, one])
    rw [e4]; clear e4
    simp only [Value.cells, over_all (xs := [Value.int IntKind.i64 0, Value.int IntKind.i64 0, Value.bool false]) (vs := [.int .i64 f.fr, .int .i64 f.to, .bool f.cl]) rfl] at V4
    have K14 := K3.step C4 (fun b hb => by omega)
    have K4 := K.trans K14
    have W0 := V4.load1 (P := prog) (t := 3) underlying3 rfl (i := 0)
    have W1 := V4.load1 (P := prog) (t := 3) underlying3 rfl (i := 1)
    have W2 := V4.load1 (P := prog) (t := 4) underlying4 rfl (i := 2)
    simp only [List.getElem?_cons_succ, List.getElem?_cons_zero] at W0 W1 W2
    by_cases hb : f.fr ≤ e ∨ f.to ≤ f.fr
    · rw [if_pos hb] at hg
      have fin : rightB l = false := by simp [rightB, hg]
      by_cases h1 : f.fr ≤ e
      · have d1 : decide (f.fr ≤ e) = true := decide_eq_true h1
        simp (disch := omega) only [wk, wt, wl, ↓reduceIte, Nat.reduceEqDiff, Nat.reduceAdd, Nat.zero_add, not_false_eq_true, not_true_eq_false, t0, t3, t6, t7, t8, W0, W1, d1]
        rw [fin]; exact ⟨rfl, K4⟩
      · have d1 : decide (f.fr ≤ e) = false := decide_eq_false h1
        have d2 : decide (f.to ≤ f.fr) = true := decide_eq_true (by omega)
        simp (disch := omega) only [wk, wt, wl, ↓reduceIte, Nat.reduceEqDiff, Nat.reduceAdd, Nat.zero_add, not_false_eq_true, not_true_eq_false, t0, t3, t6, t7, t8, W0, W1, d1, d2]
        rw [fin]; exact ⟨rfl, K4⟩
    · rw [if_neg hb] at hg
      have d1 : decide (f.fr ≤ e) = false := decide_eq_false (by omega)
      have d2 : decide (f.to ≤ f.fr) = false := decide_eq_false (by omega)
      simp (disch := omega) only [wk, wt, wl, ↓reduceIte, Nat.reduceEqDiff, Nat.reduceAdd, Nat.zero_add, not_false_eq_true, not_true_eq_false, t0, t3, t6, t7, t8, W0, W1, d1, d2, IntWalk.i64_in, intOf_int]
      exact ⟨⟨K4, i + 1, f.to, by simp, rfl, by omega, hg⟩, by omega⟩
  · rw [List.drop_of_length_le (by omega)] at hg
    simp only [wk, wt, wl, ↓reduceIte, Nat.reduceEqDiff, Nat.reduceAdd, Nat.zero_add, not_false_eq_true, not_true_eq_false, t0, R'.len underlying23]
    simp only [rightB, hg, rightGo, Bool.true_and]
    refine ⟨?_, K⟩
    congr 1
    exact decide_eq_decide.2 (by omega)
def nearF (l : List F) : Bool := l.all fun f => decide (f.to ≤ 1099511627776) && decide (-1099511627776 ≤ f.fr)
def nearB (l : List F) (x : Int) : Bool := nearF l && (decide (x ≤ 1099511627776) && decide (-1099511627776 ≤ x))
theorem nearF_at {l : List F} (h : nearF l = true) {i : Nat} {f : F} (hx : l[i]? = some f) : f.to ≤ 1099511627776 ∧ -1099511627776 ≤ f.fr := by
  have := (List.all_eq_true.1 h) f (List.mem_of_getElem? hx)
  simpa using this
end Go.Proofs.YtmjdebeikcogkaaDoor.Am
end
section
/- Folds: the fold that a line is in; what is shown with it: contracts of fold.find, at, shown, Head, Next, Prev and of the document's, by walks. -/
set_option linter.unusedSimpArgs false
set_option linter.unusedVariables false
set_option maxHeartbeats 2000000
namespace Go.Proofs.YtmjdebeikcogkaaDoor.Am
open Go Go.RowKit Go.Proofs.Tryd
theorem rightGo_at : ∀ {l : List F} {e : Int}, rightGo e l = true → (∀ (j : Nat) g, l[j]? = some g → e < g.fr ∧ g.fr < g.to) ∧ ∀ (i j : Nat) f g, i < j → l[i]? = some f → l[j]? = some g → f.to < g.fr
  | [], e, _ => ⟨fun j g h => by simp at h, fun i j f g _ h => by simp at h⟩
  | x :: l, e, h => by
    simp only [rightGo] at h
    split at h
    · cases h
    · rename_i hc
      obtain ⟨h1, h2⟩ := rightGo_at h
      refine ⟨fun j g hg => ?_, fun i j f g hij hf hg => ?_⟩
      · cases j with
        | zero => simp at hg; subst hg; omega
        | succ j => simp at hg; have := h1 j g hg; omega
      · cases j with
        | zero => omega
        | succ j =>
          simp at hg
          cases i with
          | zero => simp at hf; subst hf; exact (h1 j g hg).1
          | succ i => simp at hf; exact h2 i j f g (by omega) hf hg
theorem rightB_at {l : List F} (h : rightB l = true) : (∀ (j : Nat) g, l[j]? = some g → 0 ≤ g.fr ∧ g.fr < g.to) ∧ (∀ (i j : Nat) f g, i < j → l[i]? = some f → l[j]? = some g → f.to < g.fr) ∧ l.length ≤ 64 := by
  simp only [rightB, Bool.and_eq_true, decide_eq_true_eq] at h
  obtain ⟨h1, h2⟩ := rightGo_at h.1
  exact ⟨fun j g hg => by have := h1 j g hg; omega, h2, h.2⟩
def inGo (k : Nat) : List F → Int → Option Nat
  | [], _ => none
  | f :: l, x => if f.fr ≤ x ∧ x ≤ f.to then some k else inGo (k + 1) l x
def inF (l : List F) (x : Int) : Option Nat := inGo 0 l x
theorem inGo_some : ∀ {l : List F} {k j : Nat} {x : Int}, inGo k l x = some j → k ≤ j ∧ ∃ f, l[j - k]? = some f ∧ f.fr ≤ x ∧ x ≤ f.to
  | [], k, j, x, h => by simp [inGo] at h
  | f :: l, k, j, x, h => by
    simp only [inGo] at h
    split at h
    · rename_i hc
      simp only [Option.some.injEq] at h; subst h
      exact ⟨Nat.le_refl _, f, by simp, hc⟩
    · obtain ⟨h1, g, h2, h3⟩ := inGo_some h
      refine ⟨by omega, g, ?_, h3⟩
      rw [show j - k = (j - (k + 1)) + 1 by omega, List.getElem?_cons_succ]; exact h2
theorem inGo_none : ∀ {l : List F} {k : Nat} {x : Int}, inGo k l x = none → ∀ (j : Nat) f, l[j]? = some f → ¬ (f.fr ≤ x ∧ x ≤ f.to)
  | [], k, x, _, j, f, h => by simp at h
  | g :: l, k, x, h, j, f, hf => by
    simp only [inGo] at h
    split at h
    · cases h
    · rename_i hc
      cases j with
      | zero => simp at hf; subst hf; exact hc
      | succ j => exact inGo_none h j f (by simpa using hf)
theorem inF_some {l : List F} {j : Nat} {x : Int} (h : inF l x = some j) : ∃ f, l[j]? = some f ∧ f.fr ≤ x ∧ x ≤ f.to := by
  simpa using (inGo_some h).2
/-- Of right folds: the first that ends at a line or behind it tells. -/
theorem inF_find {l : List F} (hr : rightB l = true) {x : Int} {i : Nat} (h1 : ∀ (j : Nat) f, j < i → l[j]? = some f → f.to < x) (h2 : ∀ f, l[i]? = some f → x ≤ f.to) :
    inF l x = match l[i]? with | some f => if f.fr ≤ x then some i else none | none => none := by
  obtain ⟨g1, g2, _⟩ := rightB_at hr
  have uniq : ∀ j, inF l x = some j → j = i := fun j hj => by
    obtain ⟨f, hf, hfx, hxf⟩ := inF_some hj
    rcases Nat.lt_trichotomy j i with hlt | he | hgt
    · have := h1 j f hlt hf; omega
    · exact he
    · have hi : i < l.length := by have := (List.getElem?_eq_some_iff.1 hf).1; omega
      have hg : l[i]? = some l[i] := by simp [hi]
      have := g2 i j _ f hgt hg hf
      have := h2 _ hg
      omega
  cases hin : inF l x with
  | some j =>
    obtain rfl := uniq j hin
    obtain ⟨f, hf, hfx, _⟩ := inF_some hin
    rw [hf]; simp [hfx]
  | none =>
    cases hg : l[i]? with
    | none => rfl
    | some f =>
      have := inGo_none hin i f hg
      have := h2 f hg
      simp only
      rw [if_neg (by omega)]
def idxV : Option Nat → Int
  | some k => k
  | none => -1
theorem refIn_ok {v : Value} {l : List F} {x : Int} {h : Heap} (R : FR h v l) (hl : l.length ≤ 9223372036854775807) : ACalls prog 48 #[v, .int .i64 x] h (fun y h' => y = .int .i64 (idxV (inF l x)) ∧ h' = h) := by
  refine acalls_of_W func48 rfl (by kernel_rfl) (by kernel_rfl) (by simp [ntmps48]) ?_
  simp only [wk, wt, wl, ↓reduceIte, Nat.reduceEqDiff, Nat.reduceAdd, Nat.zero_add, not_false_eq_true, not_true_eq_false]
  refine W_loop (fun tm h' => h' = h ∧ tm 0 = v ∧ tm 1 = .int .i64 x ∧ ∃ (i : Nat), tm 5 = .int .i64 i ∧ i ≤ l.length ∧ inF l x = inGo i (l.drop i) x) (fun tm _ => (l.length - intOf (tm 5)).toNat) ⟨rfl, (by first | rfl | (simp only [wk, wt, wl, ↓reduceIte, Nat.reduceEqDiff, Nat.reduceAdd, Nat.zero_add, not_false_eq_true, not_true_eq_false]; done) | (simp only [wk, wt, wl, ↓reduceIte, Nat.reduceEqDiff, Nat.reduceAdd, Nat.zero_add, not_false_eq_true, not_true_eq_false]; rfl)), (by first | rfl | (simp only [wk, wt, wl, ↓reduceIte, Nat.reduceEqDiff, Nat.reduceAdd, Nat.zero_add, not_false_eq_true, not_true_eq_false]; done) | (simp only [wk, wt, wl, ↓reduceIte, Nat.reduceEqDiff, Nat.reduceAdd, Nat.zero_add, not_false_eq_true, not_true_eq_false]; rfl)), 0, (by first | rfl | (simp only [wk, wt, wl, ↓reduceIte, Nat.reduceEqDiff, Nat.reduceAdd, Nat.zero_add, not_false_eq_true, not_true_eq_false]; done) | (simp only [wk, wt, wl, ↓reduceIte, Nat.reduceEqDiff, Nat.reduceAdd, Nat.zero_add, not_false_eq_true, not_true_eq_false]; rfl)), by omega, rfl⟩ ?_
  rintro tm h' ⟨rfl, t0, t1, i, t5, hi, hg⟩
  simp only [wk, wt, wl, ↓reduceIte, Nat.reduceEqDiff, Nat.reduceAdd, Nat.zero_add, not_false_eq_true, not_true_eq_false, t0, t1, t5, R.len underlying23]
  refine condK_dec (fun hd => ?_) (fun hd => ?_)
  · have hi1 : i < l.length := by omega
    obtain ⟨f, hx⟩ : ∃ f, l[i]? = some f := ⟨l[i], by simp [hi1]⟩
    obtain ⟨F0, F1, F2, F3⟩ := R.flds hx
    have IX := Rd.index R underlying23 asz56 (q := .i64) (i := (i : Int)) (by omega) (by omega)
    simp only [Int.toNat_natCast] at IX
    rw [dropAt hx] at hg
    simp only [inGo] at hg
    by_cases h1 : f.fr ≤ x
    · have d1 : decide (f.fr ≤ x) = true := decide_eq_true h1
      by_cases h2 : x ≤ f.to
      · have d2 : decide (x ≤ f.to) = true := decide_eq_true h2
        rw [if_pos ⟨h1, h2⟩] at hg
        simp (disch := omega) only [wk, wt, wl, ↓reduceIte, Nat.reduceEqDiff, Nat.reduceAdd, Nat.zero_add, not_false_eq_true, not_true_eq_false, t0, t1, t5, IX, F0, F1, d1, d2]
        rw [hg]; exact ⟨rfl, trivial⟩
      · have d2 : decide (x ≤ f.to) = false := decide_eq_false h2
        rw [if_neg (by omega)] at hg
        simp (disch := omega) only [wk, wt, wl, ↓reduceIte, Nat.reduceEqDiff, Nat.reduceAdd, Nat.zero_add, not_false_eq_true, not_true_eq_false, t0, t1, t5, IX, F0, F1, d1, d2, IntWalk.i64_in, intOf_int]
        exact ⟨⟨i + 1, by simp, by omega, hg⟩, by omega⟩
    · have d1 : decide (f.fr ≤ x) = false := decide_eq_false h1
      rw [if_neg (by omega)] at hg
      simp (disch := omega) only [wk, wt, wl, ↓reduceIte, Nat.reduceEqDiff, Nat.reduceAdd, Nat.zero_add, not_false_eq_true, not_true_eq_false, t0, t1, t5, IX, F0, F1, d1, IntWalk.i64_in, intOf_int]
      exact ⟨⟨i + 1, by simp, by omega, hg⟩, by omega⟩
  · rw [List.drop_of_length_le (by omega)] at hg
    simp only [wk, wt, wl, ↓reduceIte, Nat.reduceEqDiff, Nat.reduceAdd, Nat.zero_add, not_false_eq_true, not_true_eq_false]
    simp [hg, inGo, idxV]
def shutF (l : List F) (x : Int) : Option Nat := (inF l x).bind fun k => if (l[k]?).any (·.cl) = true then some k else none
theorem refShut_ok {v : Value} {l : List F} {x : Int} {h : Heap} (R : FR h v l) (hl : l.length ≤ 9223372036854775807) : ACalls prog 37 #[v, .int .i64 x] h (fun y h' => y = .int .i64 (idxV (shutF l x)) ∧ h' = h) := by
  refine acalls_of_W func37 rfl (by kernel_rfl) (by kernel_rfl) (by simp [ntmps37]) ?_
  simp only [wk, wt, wl, ↓reduceIte, Nat.reduceEqDiff, Nat.reduceAdd, Nat.zero_add, not_false_eq_true, not_true_eq_false]
  refine (refIn_ok R hl).use_pure ?_
  cases hin : inF l x with
  | none =>
    have d0 : decide (0 ≤ (-1 : Int)) = false := by decide
    simp only [wk, wt, wl, ↓reduceIte, Nat.reduceEqDiff, Nat.reduceAdd, Nat.zero_add, not_false_eq_true, not_true_eq_false, idxV, d0]
    simp [shutF, hin, idxV]
  | some k =>
    obtain ⟨f, hx, _⟩ := inF_some hin
    have hk := (List.getElem?_eq_some_iff.1 hx).1
    obtain ⟨F0, F1, F2, F3⟩ := R.flds hx
    have IX := Rd.index R underlying23 asz56 (q := .i64) (i := (k : Int)) (by omega) (by omega)
    simp only [Int.toNat_natCast] at IX
    have d0 : decide (0 ≤ (k : Int)) = true := decide_eq_true (by omega)
    cases hcl : f.cl with
    | true =>
      rw [hcl] at F2
      simp only [wk, wt, wl, ↓reduceIte, Nat.reduceEqDiff, Nat.reduceAdd, Nat.zero_add, not_false_eq_true, not_true_eq_false, idxV, d0, IX, F2, Bool.not_true]
      simp [shutF, hin, hx, hcl, idxV]
    | false =>
      rw [hcl] at F2
      simp only [wk, wt, wl, ↓reduceIte, Nat.reduceEqDiff, Nat.reduceAdd, Nat.zero_add, not_false_eq_true, not_true_eq_false, idxV, d0, IX, F2, Bool.not_false]
      simp [shutF, hin, hx, hcl, idxV]
def shownZ (l : List F) (x : Int) : Int × Int :=
  if rightB l = true then (match shutF l x with | some k => (match l[k]? with | some f => (f.fr, f.to) | none => (x, x)) | none => (x, x)) else (x, x)
theorem shutF_some {l : List F} {x : Int} {k : Nat} (h : shutF l x = some k) : ∃ f, l[k]? = some f ∧ f.cl = true ∧ f.fr ≤ x ∧ x ≤ f.to ∧ inF l x = some k := by
  unfold shutF at h
  cases hin : inF l x with
  | none => rw [hin] at h; cases h
  | some j =>
    obtain ⟨f, hx, h1, h2⟩ := inF_some hin
    rw [hin] at h
    simp only [Option.bind_some, hx, Option.any_some] at h
    split at h
    · cases h; exact ⟨f, hx, by assumption, h1, h2, rfl⟩
    · cases h
theorem shownZ_range {l : List F} {x : Int} : shownZ l x = (x, x) ∨ ∃ (k : Nat) (f : F), shutF l x = some k ∧ rightB l = true ∧ l[k]? = some f ∧ f.cl = true ∧ f.fr ≤ x ∧ x ≤ f.to ∧ shownZ l x = (f.fr, f.to) := by
  unfold shownZ
  split
  · rename_i hr
    cases hs : shutF l x with
    | none => exact .inl rfl
    | some k =>
      obtain ⟨f, hx, h1, h2, h3, _⟩ := shutF_some hs
      exact .inr ⟨k, f, rfl, hr, hx, h1, h2, h3, by simp [hx]⟩
  · exact .inl rfl
theorem refNext_ok {v : Value} {l : List F} {x : Int} {h : Heap} (R : FR h v l) (hl : l.length ≤ 9223372036854775807) (hn : nearF l = true) (hx2 : -2199023255552 ≤ x ∧ x ≤ 2199023255552) : ACalls prog 18 #[v, .int .i64 x] h (fun y h' => y = .int .i64 ((shownZ l x).2 + 1) ∧ h' = h) := by
  refine acalls_of_W func18 rfl (by kernel_rfl) (by kernel_rfl) (by simp [ntmps18]) ?_
  simp only [wk, wt, wl, ↓reduceIte, Nat.reduceEqDiff, Nat.reduceAdd, Nat.zero_add, not_false_eq_true, not_true_eq_false]
  refine (refRight_ok R hl).use_pure ?_
  have d1 : decide ((-1 : Int) < 0) = true := by decide
  cases hr : rightB l with
  | false =>
    simp (disch := omega) only [wk, wt, wl, ↓reduceIte, Nat.reduceEqDiff, Nat.reduceAdd, Nat.zero_add, not_false_eq_true, not_true_eq_false, d1, IntWalk.i64_in]
    simp [shownZ, hr]
  | true =>
    simp only [wk, wt, wl, ↓reduceIte, Nat.reduceEqDiff, Nat.reduceAdd, Nat.zero_add, not_false_eq_true, not_true_eq_false]
    refine (refShut_ok R hl).use_pure ?_
    cases hs : shutF l x with
    | none =>
      simp (disch := omega) only [wk, wt, wl, ↓reduceIte, Nat.reduceEqDiff, Nat.reduceAdd, Nat.zero_add, not_false_eq_true, not_true_eq_false, idxV, d1, IntWalk.i64_in]
      simp [shownZ, hr, hs]
    | some k =>
      obtain ⟨f, hx, _, h3, h4, _⟩ := shutF_some hs
      have hk := (List.getElem?_eq_some_iff.1 hx).1
      have hnf := nearF_at hn hx
      obtain ⟨F0, F1, F2, F3⟩ := R.flds hx
      have IX := Rd.index R underlying23 asz56 (q := .i64) (i := (k : Int)) (by omega) (by omega)
      simp only [Int.toNat_natCast] at IX
      have d0 : decide ((k : Int) < 0) = false := decide_eq_false (by omega)
      simp (disch := omega) only [wk, wt, wl, ↓reduceIte, Nat.reduceEqDiff, Nat.reduceAdd, Nat.zero_add, not_false_eq_true, not_true_eq_false, idxV, d0, IX, F1, IntWalk.i64_in]
      simp [shownZ, hr, hs, hx]
theorem shr1 {P : Program} {t : TypeId} {x : Int} (h : 0 ≤ x) : abin P .shr t (.int .u64 x) (.int .u64 1) = some (.int .u64 (x / 2)) := by
  simp [abin, ashift, IntKind.bits, Int.fdiv_eq_ediv_of_nonneg]
end Go.Proofs.YtmjdebeikcogkaaDoor.Am
end
section
/- Folds: what is shown with a line: contracts of fold.find, at, shown, Head, Next, Prev, of the document's Prev and Same, by walks. -/
set_option linter.unusedSimpArgs false
set_option linter.unusedVariables false
set_option maxHeartbeats 2000000
namespace Go.Proofs.YtmjdebeikcogkaaDoor.Am
open Go Go.RowKit Go.Proofs.Tryd
theorem stood_fold : prog.stoodInHeld 56 = false := by kernel_rfl
theorem guard_fold : prog.eqGuardType prog.depth 56 = false := by kernel_rfl
theorem neq_fold {x y : Int} {c : Bool} : abin prog .neq 56 (.agg #[.int .i64 x, .int .i64 y, .bool c]) (.agg #[.int .i64 x, .int .i64 y, .bool c]) = some (.bool false) := by
  simp [abin, aeq, underlying56, stood_fold, guard_fold, aeqF, apart, aeq1, wt, isAggD]
def atV (l : List F) (x : Int) : Value :=
  if rightB l = true then (match inF l x with | some k => .tuple #[.int .i64 k, .int .i64 0] | none => .tuple #[.int .i64 0, .int .i64 32]) else .tuple #[.int .i64 0, .int .i64 1]
theorem shownZ_in {l : List F} {x : Int} (hn : nearF l = true) (hx : -2199023255552 ≤ x ∧ x ≤ 2199023255552) : -2199023255552 ≤ (shownZ l x).1 ∧ (shownZ l x).1 ≤ x ∧ x ≤ (shownZ l x).2 ∧ (shownZ l x).2 ≤ 2199023255552 := by
  rcases shownZ_range (l := l) (x := x) with e | ⟨k, f, _, _, hf, _, h1, h2, e⟩
  · rw [e]; omega
  · rw [e]; have := nearF_at hn hf; simp only; omega
def prevZ (l : List F) (x : Int) : Int := if 0 < (shownZ l x).1 then (shownZ l ((shownZ l x).1 - 1)).1 else -1
end Go.Proofs.YtmjdebeikcogkaaDoor.Am
end
section
/- Folds: the rows that are shown: contracts of slices.Clip, of fold.Rows and of the document's Rows, by walks. -/
set_option linter.unusedSimpArgs false
set_option linter.unusedVariables false
set_option maxHeartbeats 4000000
namespace Go.Proofs.YtmjdebeikcogkaaDoor.Am
open Go Go.RowKit Go.Proofs.Tryd
theorem abuiltin_min {k : IntKind} {ts : Array TypeId} {x y : Int} : abuiltin prog .min ts #[.int k x, .int k y] = some (.int k (if y < x then y else x)) := by simp [abuiltin, amm]
theorem abuiltin_max {k : IntKind} {ts : Array TypeId} {x y : Int} : abuiltin prog .max ts #[.int k x, .int k y] = some (.int k (if x < y then y else x)) := by simp [abuiltin, amm]
theorem build_f2 {x y : Int} : abuild prog 56 #[(0, .int .i64 x), (1, .int .i64 y)] = some (.agg #[.int .i64 x, .int .i64 y, .bool false]) := by simp [abuild, wt, aplaces, Instr.fill, Value.cells]
theorem build_f3 {x y : Int} {b : Bool} : abuild prog 56 #[(0, .int .i64 x), (1, .int .i64 y), (2, .bool b)] = some (.agg #[.int .i64 x, .int .i64 y, .bool b]) := by simp [abuild, wt, aplaces, Instr.fill, Value.cells]
theorem bsf {h : Heap} {x y : Int} {b : Bool} : abuildSlice prog h 23 1 #[(0, .agg #[.int .i64 x, .int .i64 y, .bool b])] = some (.slice (some ⟨h.size, 0, none⟩) 1 2, h.new 56 (cF ⟨x, y, b⟩)) :=
  buildA3 underlying23 asz56 azero56 rfl rfl rfl rfl
theorem clip_ok {v : Value} {l : List F} {h : Heap} (R : FR h v l) : ACalls prog 44 #[v] h (fun y h' => OS prog h.size h 3 cF y l ∧ (∀ a n c, y = .slice (some a) n c → c = n + 1) ∧ h' = h) := by
  refine acalls_of_W func44 rfl (by kernel_rfl) (by kernel_rfl) (by simp [ntmps44]) ?_
  simp only [wk, wt, wl, ↓reduceIte, Nat.reduceEqDiff, Nat.reduceAdd, Nat.zero_add, not_false_eq_true, not_true_eq_false, R.len underlying23]
  have R0 := R
  obtain ⟨hl, h2⟩ := R
  rcases h2 with ⟨h0, rfl | rfl⟩ | ⟨b, o, c, k, rfl, hb, hk, hlv, ha, ho, hc⟩
  · have : l = [] := List.eq_nil_of_length_eq_zero h0
    subst this
    have e : aslice prog h 23 (.slice none 0 0) none (some (.int .i64 ((([] : List F).length : Nat) : Int))) (some (.int .i64 ((([] : List F).length : Nat) : Int))) = some (.slice none 0 0) := by
      simp [aslice, underlying23, asz56, boundOf]
    rw [e]
    simp only [wk, wt, wl, ↓reduceIte, Nat.reduceEqDiff, Nat.reduceAdd, Nat.zero_add, not_false_eq_true, not_true_eq_false]
    exact ⟨OS.nil, (fun a n c e => by cases e), trivial⟩
  · have : l = [] := List.eq_nil_of_length_eq_zero h0
    subst this
    have e : aslice prog h 23 (.slice none 0 1) none (some (.int .i64 ((([] : List F).length : Nat) : Int))) (some (.int .i64 ((([] : List F).length : Nat) : Int))) = some (.slice none 0 0) := by
      simp [aslice, underlying23, asz56, boundOf]
    rw [e]
    simp only [wk, wt, wl, ↓reduceIte, Nat.reduceEqDiff, Nat.reduceAdd, Nat.zero_add, not_false_eq_true, not_true_eq_false]
    exact ⟨OS.nil, (fun a n c e => by cases e), trivial⟩
  · have hm : (l.length : Int) ≤ ((if c = 0 then l.length else max l.length (c - 1) : Nat) : Int) := by split <;> omega
    have e : aslice prog h 23 (.slice (some ⟨b, o, none⟩) l.length c) none (some (.int .i64 (l.length : Int))) (some (.int .i64 (l.length : Int))) = some (.slice (some ⟨b, o, none⟩) l.length (l.length + 1)) := by
      simp [aslice, underlying23, asz56, hk, ha, boundOf, hm]
    rw [e]
    simp only [wk, wt, wl, ↓reduceIte, Nat.reduceEqDiff, Nat.reduceAdd, Nat.zero_add, not_false_eq_true, not_true_eq_false]
    refine ⟨⟨⟨hl, .inr ⟨b, o, l.length + 1, k, rfl, hb, hk, hlv, ha, ho, hc⟩⟩, .inr (.inl ⟨_, rfl⟩)⟩, (fun a n c e => by cases e; rfl), trivial⟩
def nextZ1 (l : List F) (x : Int) : Int := (shownZ l x).2 + 1
inductive RowsR (l : List F) (n : Int) : Int → List F → Prop
  | done {i : Int} (h : ¬ i < n) : RowsR l n i []
  | step {i : Int} {r : List F} (h : i < n) (t : RowsR l n (nextZ1 l i) r) : RowsR l n i (⟨i, (if n < nextZ1 l i then n else nextZ1 l i) - 1, (shutF l i).isSome⟩ :: r)
theorem RowsR.det {l : List F} {n : Int} {i : Int} {r : List F} (H : RowsR l n i r) : ∀ {r' : List F}, RowsR l n i r' → r = r' := by
  induction H with
  | done h =>
    intro r' G
    cases G with
    | done _ => rfl
    | step g _ => exact absurd g h
  | step h t ih =>
    intro r' G
    cases G with
    | done g => exact absurd h g
    | step _ u => rw [ih u]
theorem idxV_ge {o : Option Nat} : decide (0 ≤ idxV o) = o.isSome := by
  cases o with
  | none => rfl
  | some k => simp [idxV]
theorem shownZ_le {l : List F} {x : Int} (hn : nearF l = true) : (shownZ l x).2 ≤ max x 1099511627776 := by
  rcases shownZ_range (l := l) (x := x) with e | ⟨k, f, _, _, hf, _, h1, h2, e⟩
  · rw [e]; simp only; omega
  · rw [e]; have := nearF_at hn hf; simp only; omega
theorem refRows_ok {v : Value} {l : List F} {n : Int} {h : Heap} (R : FR h v l) (hl : l.length ≤ 9223372036854775807) (hn : nearF l = true) (h3 : n ≤ 3000) (hr : rightB l = true) :
    ACalls prog 29 #[v, .int .i64 n] h (fun y h' => ∃ r, RowsR l n 0 r ∧ FR h' y r ∧ r.length ≤ 3000 ∧ Keeps h h') := by
  refine acalls_of_W' func29 rfl (by kernel_rfl) (by kernel_rfl) (by simp [ntmps29]) ?_
  intro H
  simp only [wk, wt, wl, ↓reduceIte, Nat.reduceEqDiff, Nat.reduceAdd, Nat.zero_add, not_false_eq_true, not_true_eq_false]
  refine (refRight_ok R hl).use_pure ?_
  simp only [wk, wt, wl, ↓reduceIte, Nat.reduceEqDiff, Nat.reduceAdd, Nat.zero_add, not_false_eq_true, not_true_eq_false, hr, Bool.not_true]
  refine W_loop (fun tm h' => Keeps h h' ∧ tm 0 = v ∧ tm 1 = .int .i64 n ∧ ∃ (i : Int) (ov : Value) (out : List F), tm 6 = .int .i64 i ∧ tm 5 = ov ∧ 0 ≤ i ∧ i ≤ 2199023255552 ∧ OS prog h.size h' 3 cF ov out ∧ (out.length : Int) ≤ i ∧ out.length ≤ 3000 ∧ ∀ r, RowsR l n i r → RowsR l n 0 (out ++ r)) (fun tm _ => (n - intOf (tm 6)).toNat)
    ⟨Keeps.refl H, (by first | rfl | (simp only [wk, wt, wl, ↓reduceIte, Nat.reduceEqDiff, Nat.reduceAdd, Nat.zero_add, not_false_eq_true, not_true_eq_false]; done) | (simp only [wk, wt, wl, ↓reduceIte, Nat.reduceEqDiff, Nat.reduceAdd, Nat.zero_add, not_false_eq_true, not_true_eq_false]; rfl)), (by first | rfl | (simp only [wk, wt, wl, ↓reduceIte, Nat.reduceEqDiff, Nat.reduceAdd, Nat.zero_add, not_false_eq_true, not_true_eq_false]; done) | (simp only [wk, wt, wl, ↓reduceIte, Nat.reduceEqDiff, Nat.reduceAdd, Nat.zero_add, not_false_eq_true, not_true_eq_false]; rfl)), 0, .slice none 0 0, [], (by first | rfl | (simp only [wk, wt, wl, ↓reduceIte, Nat.reduceEqDiff, Nat.reduceAdd, Nat.zero_add, not_false_eq_true, not_true_eq_false]; done) | (simp only [wk, wt, wl, ↓reduceIte, Nat.reduceEqDiff, Nat.reduceAdd, Nat.zero_add, not_false_eq_true, not_true_eq_false]; rfl)), (by first | rfl | (simp only [wk, wt, wl, ↓reduceIte, Nat.reduceEqDiff, Nat.reduceAdd, Nat.zero_add, not_false_eq_true, not_true_eq_false]; done) | (simp only [wk, wt, wl, ↓reduceIte, Nat.reduceEqDiff, Nat.reduceAdd, Nat.zero_add, not_false_eq_true, not_true_eq_false]; rfl)), by omega, by omega, OS.nil, by simp, by simp, fun r g => g⟩ ?_
  rintro tm h' ⟨K, t0, t1, i, ov, out, t6, t5, hi0, hi1, O, hol, ho3, hrow⟩
  have R' : FR h' v l := R.keeps K
  have hsh := shownZ_in hn (x := i) (by omega)
  have hle := shownZ_le (x := i) hn
  have hnx : nextZ1 l i = (shownZ l i).2 + 1 := rfl
  simp only [wk, wt, wl, ↓reduceIte, Nat.reduceEqDiff, Nat.reduceAdd, Nat.zero_add, not_false_eq_true, not_true_eq_false, t0, t1, t5, t6]
  refine condK_dec (fun hd => ?_) (fun hd => ?_)
  · simp (disch := omega) only [wk, wt, wl, ↓reduceIte, Nat.reduceEqDiff, Nat.reduceAdd, Nat.zero_add, not_false_eq_true, not_true_eq_false, t0, t1, t5, t6]
    refine (refNext_ok R' hl hn (by omega)).use_pure ?_
    rw [← hnx]
    simp (disch := omega) only [wk, wt, wl, ↓reduceIte, Nat.reduceEqDiff, Nat.reduceAdd, Nat.zero_add, not_false_eq_true, not_true_eq_false, t0, t1, t5, t6, abuiltin_min]
    generalize hm : (if n < nextZ1 l i then n else nextZ1 l i) = m
    have hmb : m ≤ 3000 ∧ i < m := by rw [← hm]; split <;> omega
    simp (disch := omega) only [wk, wt, wl, ↓reduceIte, Nat.reduceEqDiff, Nat.reduceAdd, Nat.zero_add, not_false_eq_true, not_true_eq_false, t0, t1, t5, t6, IntWalk.i64_in]
    refine (refShut_ok R' hl).use_pure ?_
    simp (disch := omega) only [wk, wt, wl, ↓reduceIte, Nat.reduceEqDiff, Nat.reduceAdd, Nat.zero_add, not_false_eq_true, not_true_eq_false, t0, t1, t5, t6, idxV_ge, build_f3, bsf]
    obtain ⟨v2, h2, e2, O2, C2, R2, _⟩ := O.append1 (P := prog) (Ch.wf K) (Ch.le K) underlying23 elem56 fits56 (by decide) (by decide) ⟨i, m - 1, (shutF l i).isSome⟩ rfl (by omega)
    rw [e2]; clear e2
    have K2 := K.step C2 fun b hb => hb.2
    simp (disch := omega) only [wk, wt, wl, ↓reduceIte, Nat.reduceEqDiff, Nat.reduceAdd, Nat.zero_add, not_false_eq_true, not_true_eq_false, t0, t1, t6]
    refine (refNext_ok (RS.keeps R K2) hl hn (by omega)).use_pure ?_
    rw [← hnx]
    simp (disch := omega) only [wk, wt, wl, ↓reduceIte, Nat.reduceEqDiff, Nat.reduceAdd, Nat.zero_add, not_false_eq_true, not_true_eq_false, t0, t1, intOf_int]
    refine ⟨⟨K2, nextZ1 l i, v2, out ++ [⟨i, m - 1, (shutF l i).isSome⟩], rfl, rfl, by omega, by omega, O2, by simp only [List.length_append, List.length_singleton]; omega, by simp only [List.length_append, List.length_singleton]; omega, fun r g => ?_⟩, by omega⟩
    rw [List.append_assoc]
    have := RowsR.step hd g
    rw [hm] at this
    exact hrow _ this
  · simp only [wk, wt, wl, ↓reduceIte, Nat.reduceEqDiff, Nat.reduceAdd, Nat.zero_add, not_false_eq_true, not_true_eq_false, t5]
    exact ⟨out, by simpa using hrow [] (.done hd), O.rs, ho3, K⟩
end Go.Proofs.YtmjdebeikcogkaaDoor.Am
end
section
/- Folds: the rows that are shown: the contract of fold.Rows, by a walk. -/
set_option linter.unusedSimpArgs false
set_option linter.unusedVariables false
set_option maxHeartbeats 4000000
set_option maxRecDepth 20000
namespace Go.Proofs.YtmjdebeikcogkaaDoor.Am
open Go Go.RowKit Go.Proofs.Tryd
theorem shown_gap {l : List F} {x : Int} (h : ∀ (j : Nat) f, l[j]? = some f → f.cl = true → ¬ (f.fr ≤ x ∧ x ≤ f.to)) : shutF l x = none ∧ nextZ1 l x = x + 1 := by
  have hs : shutF l x = none := by
    cases hs : shutF l x with
    | none => rfl
    | some k =>
      obtain ⟨f, hx, h1, h2, h3, _⟩ := shutF_some hs
      exact absurd ⟨h2, h3⟩ (h k f hx h1)
  refine ⟨hs, ?_⟩
  unfold nextZ1 shownZ
  rw [hs]; split <;> rfl
theorem shown_fold {l : List F} (hr : rightB l = true) {k : Nat} {f : F} (hx : l[k]? = some f) (hc : f.cl = true) : shutF l f.fr = some k ∧ nextZ1 l f.fr = f.to + 1 := by
  obtain ⟨r1, r2, _⟩ := rightB_at hr
  have hk := r1 k f hx
  have hin : inF l f.fr = some k := by
    rw [inF_find hr (x := f.fr) (i := k) (fun j g hj hg => r2 j k g f hj hg hx) (fun g hg => by rw [hx] at hg; cases hg; omega), hx]
    simp
  have hs : shutF l f.fr = some k := by simp [shutF, hin, hx, hc]
  refine ⟨hs, ?_⟩
  unfold nextZ1 shownZ
  simp [hr, hs, hx]
theorem rows_ok {v : Value} {l : List F} {n : Int} {h : Heap} (R : FR h v l) (hl : l.length ≤ 9223372036854775807) (hn : nearF l = true) (h3 : n ≤ 3000) (hr : rightB l = true) :
    ACalls prog 27 #[v, .int .i64 n] h (fun y h' => ∃ r, RowsR l n 0 r ∧ FR h' y r ∧ r.length ≤ 3000 ∧ Keeps h h') := by
  obtain ⟨r1, r2, r3⟩ := rightB_at hr
  refine acalls_of_W' func27 rfl (by kernel_rfl) (by kernel_rfl) (by simp [ntmps27]) ?_
  intro H
  simp only [wk, wt, wl, ↓reduceIte, Nat.reduceEqDiff, Nat.reduceAdd, Nat.zero_add, not_false_eq_true, not_true_eq_false]
  refine (right_ok R hl).use ?_
  rintro _ h2 ⟨rfl, K2⟩
  simp only [wk, wt, wl, ↓reduceIte, Nat.reduceEqDiff, Nat.reduceAdd, Nat.zero_add, not_false_eq_true, not_true_eq_false, hr, Bool.not_true]
  refine (clip_ok (RS.keeps R K2)).use ?_
  rintro cv _ ⟨OC, _, rfl⟩
  obtain ⟨mx, hmx⟩ : ∃ mx, mx = (if n < 0 then 0 else n) := ⟨_, rfl⟩
  have hmx1 : 0 ≤ mx ∧ n ≤ mx ∧ mx ≤ 3000 := by rw [hmx]; split <;> omega
  simp only [wk, wt, wl, ↓reduceIte, Nat.reduceEqDiff, Nat.reduceAdd, Nat.zero_add, not_false_eq_true, not_true_eq_false, abuiltin_max, ← hmx, build_f2, bsf]
  obtain ⟨lv, h5, e5, O5, C5, R5, _⟩ := OC.append1 (P := prog) (Ch.wf K2) (Nat.le_refl _) underlying23 elem56 fits56 (by decide) (by decide) ⟨mx, mx, false⟩ rfl (by omega)
  rw [e5]; clear e5
  have K5 := K2.step C5 fun b hb => by have := hb.2; have := Ch.le K2; omega
  have RL := O5.rs
  clear OC C5 R5 O5
  obtain ⟨L, hL⟩ : ∃ L, L = l ++ [⟨mx, mx, false⟩] := ⟨_, rfl⟩
  rw [← hL] at RL
  have hLl : L.length = l.length + 1 := by rw [hL]; simp
  have hget : ∀ (k : Nat) f, L[k]? = some f → (k < l.length ∧ l[k]? = some f) ∨ (k = l.length ∧ f = ⟨mx, mx, false⟩) := fun k f hf => by
    rw [hL] at hf
    rcases Nat.lt_or_ge k l.length with hk | hk
    · rw [List.getElem?_append_left hk] at hf; exact .inl ⟨hk, hf⟩
    · rw [List.getElem?_append_right hk] at hf
      have : k - l.length = 0 := by
        have := (List.getElem?_eq_some_iff.1 hf).1
        simp at this; omega
      rw [this] at hf
      simp at hf
      exact .inr ⟨by omega, hf.symm⟩
  simp only [wk, wt, wl, ↓reduceIte, Nat.reduceEqDiff, Nat.reduceAdd, Nat.zero_add, not_false_eq_true, not_true_eq_false, Rd.len RL underlying23]
  refine W_loop (fun tm h' => Keeps h h' ∧ tm 0 = v ∧ tm 1 = .int .i64 n ∧ tm 20 = lv ∧ tm 21 = .int .i64 L.length ∧ FR h' lv L ∧ ∃ (k : Nat) (i : Int) (ov : Value) (out : List F), tm 22 = .int .i64 k ∧ tm 6 = .int .i64 i ∧ tm 5 = ov ∧ k ≤ l.length ∧ 0 ≤ i ∧ i ≤ 1099511627777 ∧
      OS prog h.size h' 3 cF ov out ∧ (out.length : Int) ≤ i ∧ out.length ≤ 3000 ∧ (∀ (j : Nat) f, j < k → l[j]? = some f → f.cl = true → f.to < i) ∧ (∀ (j : Nat) f, k ≤ j → l[j]? = some f → i ≤ f.fr) ∧ ∀ r, RowsR l n i r → RowsR l n 0 (out ++ r)) (fun tm _ => (L.length - intOf (tm 22)).toNat)
    ⟨K5, (by first | rfl | (simp only [wk, wt, wl, ↓reduceIte, Nat.reduceEqDiff, Nat.reduceAdd, Nat.zero_add, not_false_eq_true, not_true_eq_false]; done) | (simp only [wk, wt, wl, ↓reduceIte, Nat.reduceEqDiff, Nat.reduceAdd, Nat.zero_add, not_false_eq_true, not_true_eq_false]; rfl)), (by first | rfl | (simp only [wk, wt, wl, ↓reduceIte, Nat.reduceEqDiff, Nat.reduceAdd, Nat.zero_add, not_false_eq_true, not_true_eq_false]; done) | (simp only [wk, wt, wl, ↓reduceIte, Nat.reduceEqDiff, Nat.reduceAdd, Nat.zero_add, not_false_eq_true, not_true_eq_false]; rfl)), (by first | rfl | (simp only [wk, wt, wl, ↓reduceIte, Nat.reduceEqDiff, Nat.reduceAdd, Nat.zero_add, not_false_eq_true, not_true_eq_false]; done) | (simp only [wk, wt, wl, ↓reduceIte, Nat.reduceEqDiff, Nat.reduceAdd, Nat.zero_add, not_false_eq_true, not_true_eq_false]; rfl)), (by first | rfl | (simp only [wk, wt, wl, ↓reduceIte, Nat.reduceEqDiff, Nat.reduceAdd, Nat.zero_add, not_false_eq_true, not_true_eq_false]; done) | (simp only [wk, wt, wl, ↓reduceIte, Nat.reduceEqDiff, Nat.reduceAdd, Nat.zero_add, not_false_eq_true, not_true_eq_false]; rfl)), RL, 0, 0, .slice none 0 0, [], (by first | rfl | (simp only [wk, wt, wl, ↓reduceIte, Nat.reduceEqDiff, Nat.reduceAdd, Nat.zero_add, not_false_eq_true, not_true_eq_false]; done) | (simp only [wk, wt, wl, ↓reduceIte, Nat.reduceEqDiff, Nat.reduceAdd, Nat.zero_add, not_false_eq_true, not_true_eq_false]; rfl)), (by first | rfl | (simp only [wk, wt, wl, ↓reduceIte, Nat.reduceEqDiff, Nat.reduceAdd, Nat.zero_add, not_false_eq_true, not_true_eq_false]; done) | (simp only [wk, wt, wl, ↓reduceIte, Nat.reduceEqDiff, Nat.reduceAdd, Nat.zero_add, not_false_eq_true, not_true_eq_false]; rfl)), (by first | rfl | (simp only [wk, wt, wl, ↓reduceIte, Nat.reduceEqDiff, Nat.reduceAdd, Nat.zero_add, not_false_eq_true, not_true_eq_false]; done) | (simp only [wk, wt, wl, ↓reduceIte, Nat.reduceEqDiff, Nat.reduceAdd, Nat.zero_add, not_false_eq_true, not_true_eq_false]; rfl)), by omega, by omega, by omega, OS.nil, by simp, by simp, fun j f hj => by omega, fun j f _ hf => (r1 j f hf).1, fun r g => g⟩ ?_
  clear K5 RL
  rintro tm h' ⟨K, t0, t1, t20, t21, RL, k, i, ov, out, t22, t6, t5, hk, hi0, hi1, O, hol, ho3, inv1, inv2, hrow⟩
  have dk : decide ((k : Int) < L.length) = true := decide_eq_true (by omega)
  have hkL : k < L.length := by omega
  obtain ⟨f, hx⟩ : ∃ f, L[k]? = some f := ⟨L[k], by simp [hkL]⟩
  obtain ⟨F0, F1, F2, F3⟩ := RL.flds hx
  have IX := Rd.index RL underlying23 asz56 (q := .i64) (i := (k : Int)) (by omega) (by omega)
  simp only [Int.toNat_natCast] at IX
  simp (disch := omega) only [wk, wt, wl, ↓reduceIte, Nat.reduceEqDiff, Nat.reduceAdd, Nat.zero_add, not_false_eq_true, not_true_eq_false, t0, t1, t20, t21, t22, t5, t6, dk, IX, F3]
  have K3 := Keeps.new (Ch.wf K) 56 [Value.int IntKind.i64 0, Value.int IntKind.i64 0, Value.bool false]
  have V3 := Var.new (e := 56) (Ch.wf K) (cs := [Value.int IntKind.i64 0, Value.int IntKind.i64 0, Value.bool false])
  obtain ⟨h4, e4, V4, C4, z4⟩ := V3.store (P := prog) (t := 56) (v := .agg #[.int .i64 f.fr, .int .i64 f.to, .bool f.cl]) (i := 0) (Ch.wf K3) asz56 (by simp [Value.cells]) (by simp [Value.cells, one])
  rw [e4]; clear e4
  simp only [Value.cells, over_all (xs := [Value.int IntKind.i64 0, Value.int IntKind.i64 0, Value.bool false]) (vs := [.int .i64 f.fr, .int .i64 f.to, .bool f.cl]) rfl] at V4
  have K14 := K3.step C4 (fun b hb => by omega)
  have K4 := K.trans K14
  have fb : f.to ≤ 1099511627776 ∧ -1099511627776 ≤ f.fr := by
    rcases hget k f hx with ⟨_, hf⟩ | ⟨_, rfl⟩
    · exact nearF_at hn hf
    · simp only; omega
  have W0 := fun {hh : Heap} (V : Var hh h'.size [.int .i64 f.fr, .int .i64 f.to, .bool f.cl]) => V.load1 (P := prog) (t := 3) underlying3 rfl (i := 0)
  have W1 := fun {hh : Heap} (V : Var hh h'.size [.int .i64 f.fr, .int .i64 f.to, .bool f.cl]) => V.load1 (P := prog) (t := 3) underlying3 rfl (i := 1)
  have W2 := fun {hh : Heap} (V : Var hh h'.size [.int .i64 f.fr, .int .i64 f.to, .bool f.cl]) => V.load1 (P := prog) (t := 4) underlying4 rfl (i := 2)
  simp only [List.getElem?_cons_succ, List.getElem?_cons_zero] at W0 W1 W2
  have RL4 : FR h4 lv L := RS.keeps RL K14
  have O4 := O.keeps K14
  have hov : ∀ y, blkOf ov = some y → y ≠ h'.size := fun y hy => by have := (Rd.blk_lt O.1 hy).1; omega
  by_cases hskip : f.cl = false ∧ f.fr < n
  · obtain ⟨hcl, hfn⟩ := hskip
    have d1 : decide (f.fr < n) = true := decide_eq_true hfn
    have W2' := W2 V4
    rw [hcl] at W2'
    simp (disch := omega) only [wk, wt, wl, ↓reduceIte, Nat.reduceEqDiff, Nat.reduceAdd, Nat.zero_add, not_false_eq_true, not_true_eq_false, t0, t1, t20, t21, t22, t5, t6, W0 V4, W2', Bool.not_false, d1, IntWalk.i64_in, intOf_int]
    rcases hget k f hx with ⟨hkl, hf⟩ | ⟨_, rfl⟩
    · refine ⟨⟨K4, RL4, k + 1, i, ov, out, by simp, rfl, rfl, by omega, hi0, hi1, O4, hol, ho3, fun j g hj hg hgc => ?_, fun j g hj hg => inv2 j g (by omega) hg, hrow⟩, by omega⟩
      by_cases e : j = k
      · subst e; rw [hf] at hg; cases hg; rw [hcl] at hgc; cases hgc
      · exact inv1 j g (by omega) hg hgc
    · simp only at hfn; omega
  · have cond8 : (∃ b, f.cl = b ∧ (b = true ∨ (b = false ∧ decide (f.fr < n) = false))) := by
      cases hcl : f.cl with
      | true => exact ⟨true, rfl, .inl rfl⟩
      | false => exact ⟨false, rfl, .inr ⟨rfl, decide_eq_false fun e => hskip ⟨hcl, e⟩⟩⟩
    obtain ⟨bc, hbc, hcase⟩ := cond8
    have W2' := W2 V4
    rw [hbc] at W2'
    rcases hcase with rfl | ⟨rfl, d1⟩
    · simp (disch := omega) only [wk, wt, wl, ↓reduceIte, Nat.reduceEqDiff, Nat.reduceAdd, Nat.zero_add, not_false_eq_true, not_true_eq_false, t0, t1, t20, t21, t22, t5, t6, W0 V4, W2', Bool.not_true]
      refine W_loop (fun tm hh => Keeps h hh ∧ tm 0 = v ∧ tm 1 = .int .i64 n ∧ tm 20 = lv ∧ tm 21 = .int .i64 L.length ∧ tm 22 = .int .i64 k ∧ tm 8 = .pointer (some ⟨h'.size, 0, none⟩) ∧ FR hh lv L ∧ Var hh h'.size [.int .i64 f.fr, .int .i64 f.to, .bool f.cl] ∧ ∃ (x : Int) (ov : Value) (out : List F), tm 6 = .int .i64 x ∧ tm 5 = ov ∧ i ≤ x ∧ (x ≤ f.fr ∨ x = i) ∧ x ≤ 1099511627777 ∧
          OS prog h.size hh 3 cF ov out ∧ (∀ y, blkOf ov = some y → y ≠ h'.size) ∧ (out.length : Int) ≤ x ∧ out.length ≤ 3000 ∧ ∀ r, RowsR l n x r → RowsR l n 0 (out ++ r)) (fun tm _ => (f.fr - intOf (tm 6)).toNat)
        ⟨K4, (by first | rfl | (simp only [wk, wt, wl, ↓reduceIte, Nat.reduceEqDiff, Nat.reduceAdd, Nat.zero_add, not_false_eq_true, not_true_eq_false]; done) | (simp only [wk, wt, wl, ↓reduceIte, Nat.reduceEqDiff, Nat.reduceAdd, Nat.zero_add, not_false_eq_true, not_true_eq_false]; rfl) | (simp only [wk, wt, wl, ↓reduceIte, Nat.reduceEqDiff, Nat.reduceAdd, Nat.zero_add, not_false_eq_true, not_true_eq_false, t0]; done) | (simp only [wk, wt, wl, ↓reduceIte, Nat.reduceEqDiff, Nat.reduceAdd, Nat.zero_add, not_false_eq_true, not_true_eq_false, t0]; rfl)), (by first | rfl | (simp only [wk, wt, wl, ↓reduceIte, Nat.reduceEqDiff, Nat.reduceAdd, Nat.zero_add, not_false_eq_true, not_true_eq_false]; done) | (simp only [wk, wt, wl, ↓reduceIte, Nat.reduceEqDiff, Nat.reduceAdd, Nat.zero_add, not_false_eq_true, not_true_eq_false]; rfl) | (simp only [wk, wt, wl, ↓reduceIte, Nat.reduceEqDiff, Nat.reduceAdd, Nat.zero_add, not_false_eq_true, not_true_eq_false, t1]; done) | (simp only [wk, wt, wl, ↓reduceIte, Nat.reduceEqDiff, Nat.reduceAdd, Nat.zero_add, not_false_eq_true, not_true_eq_false, t1]; rfl)), (by first | rfl | (simp only [wk, wt, wl, ↓reduceIte, Nat.reduceEqDiff, Nat.reduceAdd, Nat.zero_add, not_false_eq_true, not_true_eq_false]; done) | (simp only [wk, wt, wl, ↓reduceIte, Nat.reduceEqDiff, Nat.reduceAdd, Nat.zero_add, not_false_eq_true, not_true_eq_false]; rfl) | (simp only [wk, wt, wl, ↓reduceIte, Nat.reduceEqDiff, Nat.reduceAdd, Nat.zero_add, not_false_eq_true, not_true_eq_false, t20]; done) | (simp only [wk, wt, wl, ↓reduceIte, Nat.reduceEqDiff, Nat.reduceAdd, Nat.zero_add, not_false_eq_true, not_true_eq_false, t20]; rfl)), (by first | rfl | (simp only [wk, wt, wl, ↓reduceIte, Nat.reduceEqDiff, Nat.reduceAdd, Nat.zero_add, not_false_eq_true, not_true_eq_false]; done) | (simp only [wk, wt, wl, ↓reduceIte, Nat.reduceEqDiff, Nat.reduceAdd, Nat.zero_add, not_false_eq_true, not_true_eq_false]; rfl) | (simp only [wk, wt, wl, ↓reduceIte, Nat.reduceEqDiff, Nat.reduceAdd, Nat.zero_add, not_false_eq_true, not_true_eq_false, t21]; done) | (simp only [wk, wt, wl, ↓reduceIte, Nat.reduceEqDiff, Nat.reduceAdd, Nat.zero_add, not_false_eq_true, not_true_eq_false, t21]; rfl)), (by first | rfl | (simp only [wk, wt, wl, ↓reduceIte, Nat.reduceEqDiff, Nat.reduceAdd, Nat.zero_add, not_false_eq_true, not_true_eq_false]; done) | (simp only [wk, wt, wl, ↓reduceIte, Nat.reduceEqDiff, Nat.reduceAdd, Nat.zero_add, not_false_eq_true, not_true_eq_false]; rfl) | (simp only [wk, wt, wl, ↓reduceIte, Nat.reduceEqDiff, Nat.reduceAdd, Nat.zero_add, not_false_eq_true, not_true_eq_false, t22]; done) | (simp only [wk, wt, wl, ↓reduceIte, Nat.reduceEqDiff, Nat.reduceAdd, Nat.zero_add, not_false_eq_true, not_true_eq_false, t22]; rfl)), (by first | rfl | (simp only [wk, wt, wl, ↓reduceIte, Nat.reduceEqDiff, Nat.reduceAdd, Nat.zero_add, not_false_eq_true, not_true_eq_false]; done) | (simp only [wk, wt, wl, ↓reduceIte, Nat.reduceEqDiff, Nat.reduceAdd, Nat.zero_add, not_false_eq_true, not_true_eq_false]; rfl)), RL4, V4, i, ov, out, (by first | rfl | (simp only [wk, wt, wl, ↓reduceIte, Nat.reduceEqDiff, Nat.reduceAdd, Nat.zero_add, not_false_eq_true, not_true_eq_false]; done) | (simp only [wk, wt, wl, ↓reduceIte, Nat.reduceEqDiff, Nat.reduceAdd, Nat.zero_add, not_false_eq_true, not_true_eq_false]; rfl) | (simp only [wk, wt, wl, ↓reduceIte, Nat.reduceEqDiff, Nat.reduceAdd, Nat.zero_add, not_false_eq_true, not_true_eq_false, t6]; done) | (simp only [wk, wt, wl, ↓reduceIte, Nat.reduceEqDiff, Nat.reduceAdd, Nat.zero_add, not_false_eq_true, not_true_eq_false, t6]; rfl)), (by first | rfl | (simp only [wk, wt, wl, ↓reduceIte, Nat.reduceEqDiff, Nat.reduceAdd, Nat.zero_add, not_false_eq_true, not_true_eq_false]; done) | (simp only [wk, wt, wl, ↓reduceIte, Nat.reduceEqDiff, Nat.reduceAdd, Nat.zero_add, not_false_eq_true, not_true_eq_false]; rfl) | (simp only [wk, wt, wl, ↓reduceIte, Nat.reduceEqDiff, Nat.reduceAdd, Nat.zero_add, not_false_eq_true, not_true_eq_false, t5]; done) | (simp only [wk, wt, wl, ↓reduceIte, Nat.reduceEqDiff, Nat.reduceAdd, Nat.zero_add, not_false_eq_true, not_true_eq_false, t5]; rfl)), by omega, .inr rfl, by omega, O4, hov, hol, ho3, hrow⟩ ?_
      clear K4 RL4 V4 O4 hov hol ho3 hrow O W2' C4 K14 V3 K3
      rintro tm hh ⟨K, t0, t1, t20, t21, t22, t8, RL, V, x, ov, out, t6, t5, hix, hxf, hxb, O, hov, hol, ho3, hrow⟩
      simp (disch := omega) only [wk, wt, wl, ↓reduceIte, Nat.reduceEqDiff, Nat.reduceAdd, Nat.zero_add, not_false_eq_true, not_true_eq_false, t0, t1, t20, t21, t22, t8, t5, t6, W0 V]
      refine condK_dec (fun hd => ?_) (fun hd => ?_)
      · simp (disch := omega) only [wk, wt, wl, ↓reduceIte, Nat.reduceEqDiff, Nat.reduceAdd, Nat.zero_add, not_false_eq_true, not_true_eq_false, t0, t1, t20, t21, t22, t8, t5, t6]
        refine condK_dec (fun hc => ?_) (fun hc => ?_)
        · simp (disch := omega) only [wk, wt, wl, ↓reduceIte, Nat.reduceEqDiff, Nat.reduceAdd, Nat.zero_add, not_false_eq_true, not_true_eq_false, t5]
          exact ⟨out, by simpa using hrow [] (.done (by omega)), O.rs, ho3, K⟩
        · have hgap := shown_gap (l := l) (x := x) fun j g hg hgc => by
            rcases Nat.lt_or_ge j k with hj | hj
            · have := inv1 j g hj hg hgc; omega
            · rcases hget k f hx with ⟨_, hf⟩ | ⟨hke, _⟩
              · rcases Nat.lt_or_eq_of_le hj with hj | rfl
                · have := r2 k j f g hj hf hg; have := r1 k f hf; omega
                · rw [hf] at hg; cases hg; omega
              · have := (List.getElem?_eq_some_iff.1 hg).1; omega
          simp (disch := omega) only [wk, wt, wl, ↓reduceIte, Nat.reduceEqDiff, Nat.reduceAdd, Nat.zero_add, not_false_eq_true, not_true_eq_false, t0, t1, t20, t21, t22, t8, t5, t6, build_f2, bsf]
          obtain ⟨v2, h2, e2, O2, C2, R2, ev2⟩ := O.append1 (P := prog) (Ch.wf K) (Ch.le K) underlying23 elem56 fits56 (by decide) (by decide) ⟨x, x, false⟩ rfl (by omega)
          rw [e2]; clear e2
          have KK := K.step C2 fun b hb => hb.2
          have V2 := Ch.var (Ch.wf K) C2 V fun e => hov _ e.1 rfl
          have hlt := V.lt (Ch.wf K)
          simp (disch := omega) only [wk, wt, wl, ↓reduceIte, Nat.reduceEqDiff, Nat.reduceAdd, Nat.zero_add, not_false_eq_true, not_true_eq_false, t0, t1, t20, t21, t22, t8, t6, IntWalk.i64_in, intOf_int]
          refine ⟨⟨KK, Rd.reads RL C2.le R2, V2, x + 1, v2, out ++ [⟨x, x, false⟩], rfl, rfl, by omega, by omega, by omega, O2, fun y hy => ?_, by simp only [List.length_append, List.length_singleton]; omega, by simp only [List.length_append, List.length_singleton]; omega, fun r g => ?_⟩, by omega⟩
          · rw [ev2] at hy; simp only [blkOf, Option.some.injEq] at hy; omega
          · rw [List.append_assoc]
            have st := RowsR.step (l := l) (n := n) (i := x) (by omega) (by rw [hgap.2]; exact g)
            rw [hgap.1, hgap.2, if_neg (by omega)] at st
            have e : x + 1 - 1 = x := by omega
            rw [e] at st
            exact hrow _ st
      · simp (disch := omega) only [wk, wt, wl, ↓reduceIte, Nat.reduceEqDiff, Nat.reduceAdd, Nat.zero_add, not_false_eq_true, not_true_eq_false, t0, t1, t20, t21, t22, t8, t5, t6]
        refine condK_dec (fun hc => ?_) (fun hc => ?_)
        · simp (disch := omega) only [wk, wt, wl, ↓reduceIte, Nat.reduceEqDiff, Nat.reduceAdd, Nat.zero_add, not_false_eq_true, not_true_eq_false, t5]
          exact ⟨out, by simpa using hrow [] (.done (by omega)), O.rs, ho3, K⟩
        · obtain ⟨hf, hxe, hcl⟩ : l[k]? = some f ∧ x = f.fr ∧ f.cl = true := by
            rcases hget k f hx with ⟨_, hf⟩ | ⟨_, rfl⟩
            · have := inv2 k f (Nat.le_refl _) hf
              refine ⟨hf, by omega, ?_⟩
              cases hcl : f.cl with
              | true => rfl
              | false => exact absurd ⟨hcl, by omega⟩ hskip
            · exfalso; simp only at hxf hd hix; omega
          have hkl := (List.getElem?_eq_some_iff.1 hf).1
          have hff := r1 k f hf
          have hsf := shown_fold hr hf hcl
          obtain ⟨m, hm⟩ : ∃ m, m = (if n - 1 < f.to then n - 1 else f.to) := ⟨_, rfl⟩
          simp (disch := omega) only [wk, wt, wl, ↓reduceIte, Nat.reduceEqDiff, Nat.reduceAdd, Nat.zero_add, not_false_eq_true, not_true_eq_false, t0, t1, t20, t21, t22, t8, t5, t6, W1 V, IntWalk.i64_in, abuiltin_min, ← hm, build_f3, bsf]
          obtain ⟨v2, h2, e2, O2, C2, R2, ev2⟩ := O.append1 (P := prog) (Ch.wf K) (Ch.le K) underlying23 elem56 fits56 (by decide) (by decide) ⟨x, m, true⟩ rfl (by omega)
          rw [e2]; clear e2
          have KK := K.step C2 fun b hb => hb.2
          have V2 := Ch.var (Ch.wf K) C2 V fun e => hov _ e.1 rfl
          simp (disch := omega) only [wk, wt, wl, ↓reduceIte, Nat.reduceEqDiff, Nat.reduceAdd, Nat.zero_add, not_false_eq_true, not_true_eq_false, t0, t1, t20, t21, t22, t8, t6, W1 V2, IntWalk.i64_in, intOf_int]
          refine ⟨⟨KK, Rd.reads RL C2.le R2, k + 1, f.to + 1, v2, out ++ [⟨x, m, true⟩], by simp, rfl, rfl, by omega, by omega, by omega, O2, by simp only [List.length_append, List.length_singleton]; omega, by simp only [List.length_append, List.length_singleton]; omega, fun j g hj hg hgc => ?_, fun j g hj hg => by have := r2 k j f g (by omega) hf hg; omega, fun r g => ?_⟩, by omega⟩
          · by_cases e : j = k
            · subst e; rw [hf] at hg; cases hg; omega
            · have := inv1 j g (by omega) hg hgc; omega
          · rw [List.append_assoc]
            have st := RowsR.step (l := l) (n := n) (i := f.fr) (by omega) (by rw [hsf.2]; exact g)
            rw [hsf.1, hsf.2] at st
            have e : (if n < f.to + 1 then n else f.to + 1) - 1 = m := by rw [hm]; split <;> split <;> omega
            rw [e] at st
            rw [hxe] at hrow ⊢
            exact hrow _ st
    · simp (disch := omega) only [wk, wt, wl, ↓reduceIte, Nat.reduceEqDiff, Nat.reduceAdd, Nat.zero_add, not_false_eq_true, not_true_eq_false, t0, t1, t20, t21, t22, t5, t6, W0 V4, W2', Bool.not_false, d1]
      refine W_loop (fun tm hh => Keeps h hh ∧ tm 0 = v ∧ tm 1 = .int .i64 n ∧ tm 20 = lv ∧ tm 21 = .int .i64 L.length ∧ tm 22 = .int .i64 k ∧ tm 8 = .pointer (some ⟨h'.size, 0, none⟩) ∧ FR hh lv L ∧ Var hh h'.size [.int .i64 f.fr, .int .i64 f.to, .bool f.cl] ∧ ∃ (x : Int) (ov : Value) (out : List F), tm 6 = .int .i64 x ∧ tm 5 = ov ∧ i ≤ x ∧ (x ≤ f.fr ∨ x = i) ∧ x ≤ 1099511627777 ∧
          OS prog h.size hh 3 cF ov out ∧ (∀ y, blkOf ov = some y → y ≠ h'.size) ∧ (out.length : Int) ≤ x ∧ out.length ≤ 3000 ∧ ∀ r, RowsR l n x r → RowsR l n 0 (out ++ r)) (fun tm _ => (f.fr - intOf (tm 6)).toNat)
        ⟨K4, (by first | rfl | (simp only [wk, wt, wl, ↓reduceIte, Nat.reduceEqDiff, Nat.reduceAdd, Nat.zero_add, not_false_eq_true, not_true_eq_false]; done) | (simp only [wk, wt, wl, ↓reduceIte, Nat.reduceEqDiff, Nat.reduceAdd, Nat.zero_add, not_false_eq_true, not_true_eq_false]; rfl) | (simp only [wk, wt, wl, ↓reduceIte, Nat.reduceEqDiff, Nat.reduceAdd, Nat.zero_add, not_false_eq_true, not_true_eq_false, t0]; done) | (simp only [wk, wt, wl, ↓reduceIte, Nat.reduceEqDiff, Nat.reduceAdd, Nat.zero_add, not_false_eq_true, not_true_eq_false, t0]; rfl)), (by first | rfl | (simp only [wk, wt, wl, ↓reduceIte, Nat.reduceEqDiff, Nat.reduceAdd, Nat.zero_add, not_false_eq_true, not_true_eq_false]; done) | (simp only [wk, wt, wl, ↓reduceIte, Nat.reduceEqDiff, Nat.reduceAdd, Nat.zero_add, not_false_eq_true, not_true_eq_false]; rfl) | (simp only [wk, wt, wl, ↓reduceIte, Nat.reduceEqDiff, Nat.reduceAdd, Nat.zero_add, not_false_eq_true, not_true_eq_false, t1]; done) | (simp only [wk, wt, wl, ↓reduceIte, Nat.reduceEqDiff, Nat.reduceAdd, Nat.zero_add, not_false_eq_true, not_true_eq_false, t1]; rfl)), (by first | rfl | (simp only [wk, wt, wl, ↓reduceIte, Nat.reduceEqDiff, Nat.reduceAdd, Nat.zero_add, not_false_eq_true, not_true_eq_false]; done) | (simp only [wk, wt, wl, ↓reduceIte, Nat.reduceEqDiff, Nat.reduceAdd, Nat.zero_add, not_false_eq_true, not_true_eq_false]; rfl) | (simp only [wk, wt, wl, ↓reduceIte, Nat.reduceEqDiff, Nat.reduceAdd, Nat.zero_add, not_false_eq_true, not_true_eq_false, t20]; done) | (simp only [wk, wt, wl, ↓reduceIte, Nat.reduceEqDiff, Nat.reduceAdd, Nat.zero_add, not_false_eq_true, not_true_eq_false, t20]; rfl)), (by first | rfl | (simp only [wk, wt, wl, ↓reduceIte, Nat.reduceEqDiff, Nat.reduceAdd, Nat.zero_add, not_false_eq_true, not_true_eq_false]; done) | (simp only [wk, wt, wl, ↓reduceIte, Nat.reduceEqDiff, Nat.reduceAdd, Nat.zero_add, not_false_eq_true, not_true_eq_false]; rfl) | (simp only [wk, wt, wl, ↓reduceIte, Nat.reduceEqDiff, Nat.reduceAdd, Nat.zero_add, not_false_eq_true, not_true_eq_false, t21]; done) | (simp only [wk, wt, wl, ↓reduceIte, Nat.reduceEqDiff, Nat.reduceAdd, Nat.zero_add, not_false_eq_true, not_true_eq_false, t21]; rfl)), (by first | rfl | (simp only [wk, wt, wl, ↓reduceIte, Nat.reduceEqDiff, Nat.reduceAdd, Nat.zero_add, not_false_eq_true, not_true_eq_false]; done) | (simp only [wk, wt, wl, ↓reduceIte, Nat.reduceEqDiff, Nat.reduceAdd, Nat.zero_add, not_false_eq_true, not_true_eq_false]; rfl) | (simp only [wk, wt, wl, ↓reduceIte, Nat.reduceEqDiff, Nat.reduceAdd, Nat.zero_add, not_false_eq_true, not_true_eq_false, t22]; done) | (simp only [wk, wt, wl, ↓reduceIte, Nat.reduceEqDiff, Nat.reduceAdd, Nat.zero_add, not_false_eq_true, not_true_eq_false, t22]; rfl)), (by first | rfl | (simp only [wk, wt, wl, ↓reduceIte, Nat.reduceEqDiff, Nat.reduceAdd, Nat.zero_add, not_false_eq_true, not_true_eq_false]; done) | (simp only [wk, wt, wl, ↓reduceIte, Nat.reduceEqDiff, Nat.reduceAdd, Nat.zero_add, not_false_eq_true, not_true_eq_false]; rfl)), RL4, V4, i, ov, out, (by first | rfl | (simp only [wk, wt, wl, ↓reduceIte, Nat.reduceEqDiff, Nat.reduceAdd, Nat.zero_add, not_false_eq_true, not_true_eq_false]; done) | (simp only [wk, wt, wl, ↓reduceIte, Nat.reduceEqDiff, Nat.reduceAdd, Nat.zero_add, not_false_eq_true, not_true_eq_false]; rfl) | (simp only [wk, wt, wl, ↓reduceIte, Nat.reduceEqDiff, Nat.reduceAdd, Nat.zero_add, not_false_eq_true, not_true_eq_false, t6]; done) | (simp only [wk, wt, wl, ↓reduceIte, Nat.reduceEqDiff, Nat.reduceAdd, Nat.zero_add, not_false_eq_true, not_true_eq_false, t6]; rfl)), (by first | rfl | (simp only [wk, wt, wl, ↓reduceIte, Nat.reduceEqDiff, Nat.reduceAdd, Nat.zero_add, not_false_eq_true, not_true_eq_false]; done) | (simp only [wk, wt, wl, ↓reduceIte, Nat.reduceEqDiff, Nat.reduceAdd, Nat.zero_add, not_false_eq_true, not_true_eq_false]; rfl) | (simp only [wk, wt, wl, ↓reduceIte, Nat.reduceEqDiff, Nat.reduceAdd, Nat.zero_add, not_false_eq_true, not_true_eq_false, t5]; done) | (simp only [wk, wt, wl, ↓reduceIte, Nat.reduceEqDiff, Nat.reduceAdd, Nat.zero_add, not_false_eq_true, not_true_eq_false, t5]; rfl)), by omega, .inr rfl, by omega, O4, hov, hol, ho3, hrow⟩ ?_
      clear K4 RL4 V4 O4 hov hol ho3 hrow O W2' C4 K14 V3 K3
      rintro tm hh ⟨K, t0, t1, t20, t21, t22, t8, RL, V, x, ov, out, t6, t5, hix, hxf, hxb, O, hov, hol, ho3, hrow⟩
      simp (disch := omega) only [wk, wt, wl, ↓reduceIte, Nat.reduceEqDiff, Nat.reduceAdd, Nat.zero_add, not_false_eq_true, not_true_eq_false, t0, t1, t20, t21, t22, t8, t5, t6, W0 V]
      refine condK_dec (fun hd => ?_) (fun hd => ?_)
      · simp (disch := omega) only [wk, wt, wl, ↓reduceIte, Nat.reduceEqDiff, Nat.reduceAdd, Nat.zero_add, not_false_eq_true, not_true_eq_false, t0, t1, t20, t21, t22, t8, t5, t6]
        refine condK_dec (fun hc => ?_) (fun hc => ?_)
        · simp (disch := omega) only [wk, wt, wl, ↓reduceIte, Nat.reduceEqDiff, Nat.reduceAdd, Nat.zero_add, not_false_eq_true, not_true_eq_false, t5]
          exact ⟨out, by simpa using hrow [] (.done (by omega)), O.rs, ho3, K⟩
        · have hgap := shown_gap (l := l) (x := x) fun j g hg hgc => by
            rcases Nat.lt_or_ge j k with hj | hj
            · have := inv1 j g hj hg hgc; omega
            · rcases hget k f hx with ⟨_, hf⟩ | ⟨hke, _⟩
              · rcases Nat.lt_or_eq_of_le hj with hj | rfl
                · have := r2 k j f g hj hf hg; have := r1 k f hf; omega
                · rw [hf] at hg; cases hg; omega
              · have := (List.getElem?_eq_some_iff.1 hg).1; omega
          simp (disch := omega) only [wk, wt, wl, ↓reduceIte, Nat.reduceEqDiff, Nat.reduceAdd, Nat.zero_add, not_false_eq_true, not_true_eq_false, t0, t1, t20, t21, t22, t8, t5, t6, build_f2, bsf]
          obtain ⟨v2, h2, e2, O2, C2, R2, ev2⟩ := O.append1 (P := prog) (Ch.wf K) (Ch.le K) underlying23 elem56 fits56 (by decide) (by decide) ⟨x, x, false⟩ rfl (by omega)
          rw [e2]; clear e2
          have KK := K.step C2 fun b hb => hb.2
          have V2 := Ch.var (Ch.wf K) C2 V fun e => hov _ e.1 rfl
          have hlt := V.lt (Ch.wf K)
          simp (disch := omega) only [wk, wt, wl, ↓reduceIte, Nat.reduceEqDiff, Nat.reduceAdd, Nat.zero_add, not_false_eq_true, not_true_eq_false, t0, t1, t20, t21, t22, t8, t6, IntWalk.i64_in, intOf_int]
          refine ⟨⟨KK, Rd.reads RL C2.le R2, V2, x + 1, v2, out ++ [⟨x, x, false⟩], rfl, rfl, by omega, by omega, by omega, O2, fun y hy => ?_, by simp only [List.length_append, List.length_singleton]; omega, by simp only [List.length_append, List.length_singleton]; omega, fun r g => ?_⟩, by omega⟩
          · rw [ev2] at hy; simp only [blkOf, Option.some.injEq] at hy; omega
          · rw [List.append_assoc]
            have st := RowsR.step (l := l) (n := n) (i := x) (by omega) (by rw [hgap.2]; exact g)
            rw [hgap.1, hgap.2, if_neg (by omega)] at st
            have e : x + 1 - 1 = x := by omega
            rw [e] at st
            exact hrow _ st
      · simp (disch := omega) only [wk, wt, wl, ↓reduceIte, Nat.reduceEqDiff, Nat.reduceAdd, Nat.zero_add, not_false_eq_true, not_true_eq_false, t0, t1, t20, t21, t22, t8, t5, t6]
        refine condK_dec (fun hc => ?_) (fun hc => ?_)
        · simp (disch := omega) only [wk, wt, wl, ↓reduceIte, Nat.reduceEqDiff, Nat.reduceAdd, Nat.zero_add, not_false_eq_true, not_true_eq_false, t5]
          exact ⟨out, by simpa using hrow [] (.done (by omega)), O.rs, ho3, K⟩
        · obtain ⟨hf, hxe, hcl⟩ : l[k]? = some f ∧ x = f.fr ∧ f.cl = true := by
            rcases hget k f hx with ⟨_, hf⟩ | ⟨_, rfl⟩
            · have := inv2 k f (Nat.le_refl _) hf
              refine ⟨hf, by omega, ?_⟩
              cases hcl : f.cl with
              | true => rfl
              | false => exact absurd ⟨hcl, by omega⟩ hskip
            · exfalso; simp only at hxf hd hix; omega
          have hkl := (List.getElem?_eq_some_iff.1 hf).1
          have hff := r1 k f hf
          have hsf := shown_fold hr hf hcl
          obtain ⟨m, hm⟩ : ∃ m, m = (if n - 1 < f.to then n - 1 else f.to) := ⟨_, rfl⟩
          simp (disch := omega) only [wk, wt, wl, ↓reduceIte, Nat.reduceEqDiff, Nat.reduceAdd, Nat.zero_add, not_false_eq_true, not_true_eq_false, t0, t1, t20, t21, t22, t8, t5, t6, W1 V, IntWalk.i64_in, abuiltin_min, ← hm, build_f3, bsf]
          obtain ⟨v2, h2, e2, O2, C2, R2, ev2⟩ := O.append1 (P := prog) (Ch.wf K) (Ch.le K) underlying23 elem56 fits56 (by decide) (by decide) ⟨x, m, true⟩ rfl (by omega)
          rw [e2]; clear e2
          have KK := K.step C2 fun b hb => hb.2
          have V2 := Ch.var (Ch.wf K) C2 V fun e => hov _ e.1 rfl
          simp (disch := omega) only [wk, wt, wl, ↓reduceIte, Nat.reduceEqDiff, Nat.reduceAdd, Nat.zero_add, not_false_eq_true, not_true_eq_false, t0, t1, t20, t21, t22, t8, t6, W1 V2, IntWalk.i64_in, intOf_int]
          refine ⟨⟨KK, Rd.reads RL C2.le R2, k + 1, f.to + 1, v2, out ++ [⟨x, m, true⟩], by simp, rfl, rfl, by omega, by omega, by omega, O2, by simp only [List.length_append, List.length_singleton]; omega, by simp only [List.length_append, List.length_singleton]; omega, fun j g hj hg hgc => ?_, fun j g hj hg => by have := r2 k j f g (by omega) hf hg; omega, fun r g => ?_⟩, by omega⟩
          · by_cases e : j = k
            · subst e; rw [hf] at hg; cases hg; omega
            · have := inv1 j g (by omega) hg hgc; omega
          · rw [List.append_assoc]
            have st := RowsR.step (l := l) (n := n) (i := f.fr) (by omega) (by rw [hsf.2]; exact g)
            rw [hsf.1, hsf.2] at st
            have e : (if n < f.to + 1 then n else f.to + 1) - 1 = m := by rw [hm]; split <;> split <;> omega
            rw [e] at st
            rw [hxe] at hrow ⊢
            exact hrow _ st
end Go.Proofs.YtmjdebeikcogkaaDoor.Am
end
section
/- Views: rows and texts in plain terms; contracts of the document's Same, of Runes, Small and fit, by walks. -/
set_option linter.unusedSimpArgs false
set_option linter.unusedVariables false
set_option maxHeartbeats 4000000
set_option maxRecDepth 20000
namespace Go.Proofs.YtmjdebeikcogkaaDoor.Am
open Go Go.RowKit Go.Proofs.Tryd
structure Rw where
  ln : Int
  fr : Int
  to : Int
  fo : Bool
def cR (x : Rw) : List Value := [.int .i64 x.ln, .int .i64 x.fr, .int .i64 x.to, .bool x.fo]
theorem cR_len : ∀ x, (cR x).length = 4 := fun _ => rfl
abbrev RR (h : Heap) (v : Value) (l : List Rw) : Prop := RS prog h 4 cR v l
theorem RR.flds {h : Heap} {v : Value} {l : List Rw} (R : RR h v l) {i : Nat} {x : Rw} (hx : l[i]? = some x) :
    aload prog h 3 ⟨(eltA v 4 i).block, (eltA v 4 i).off + 0, none⟩ = some (.int .i64 x.ln) ∧ aload prog h 3 ⟨(eltA v 4 i).block, (eltA v 4 i).off + 1, none⟩ = some (.int .i64 x.fr) ∧ aload prog h 3 ⟨(eltA v 4 i).block, (eltA v 4 i).off + 2, none⟩ = some (.int .i64 x.to) ∧ aload prog h 4 ⟨(eltA v 4 i).block, (eltA v 4 i).off + 3, none⟩ = some (.bool x.fo) ∧
    aload prog h 37 (eltA v 4 i) = some (.agg #[.int .i64 x.ln, .int .i64 x.fr, .int .i64 x.to, .bool x.fo]) :=
  ⟨R.fld cR_len underlying3 rfl hx (by decide), R.fld cR_len underlying3 rfl hx (by decide), R.fld cR_len underlying3 rfl hx (by decide), R.fld cR_len underlying4 rfl hx (by decide), R.agg cR_len underlying37 rfl asz37 hx⟩
theorem stood_row : prog.stoodInHeld 37 = false := by kernel_rfl
theorem guard_row : prog.eqGuardType prog.depth 37 = false := by kernel_rfl
theorem neq_row {x y z : Int} {c : Bool} : abin prog .neq 37 (.agg #[.int .i64 x, .int .i64 y, .int .i64 z, .bool c]) (.agg #[.int .i64 x, .int .i64 y, .int .i64 z, .bool c]) = some (.bool false) := by
  simp [abin, aeq, underlying37, stood_row, guard_row, aeqF, apart, aeq1, wt, isAggD]
theorem eql_row {x y z : Int} {c : Bool} : abin prog .eql 37 (.agg #[.int .i64 x, .int .i64 y, .int .i64 z, .bool c]) (.agg #[.int .i64 x, .int .i64 y, .int .i64 z, .bool c]) = some (.bool true) := by
  simp [abin, aeq, underlying37, stood_row, guard_row, aeqF, apart, aeq1, wt, isAggD]
theorem build_r1 {x : Int} : abuild prog 37 #[(0, .int .i64 x)] = some (.agg #[.int .i64 x, .int .i64 0, .int .i64 0, .bool false]) := by simp [abuild, wt, aplaces, Instr.fill, Value.cells]
theorem build_r2 {x : Int} : abuild prog 37 #[(2, .int .i64 x)] = some (.agg #[.int .i64 0, .int .i64 0, .int .i64 x, .bool false]) := by simp [abuild, wt, aplaces, Instr.fill, Value.cells]
theorem build_r02 {x y : Int} : abuild prog 37 #[(0, .int .i64 x), (2, .int .i64 y)] = some (.agg #[.int .i64 x, .int .i64 0, .int .i64 y, .bool false]) := by simp [abuild, wt, aplaces, Instr.fill, Value.cells]
theorem build_r12 {x y : Int} : abuild prog 37 #[(1, .int .i64 x), (2, .int .i64 y)] = some (.agg #[.int .i64 0, .int .i64 x, .int .i64 y, .bool false]) := by simp [abuild, wt, aplaces, Instr.fill, Value.cells]
theorem build_r023 {x y : Int} {b : Bool} : abuild prog 37 #[(0, .int .i64 x), (2, .int .i64 y), (3, .bool b)] = some (.agg #[.int .i64 x, .int .i64 0, .int .i64 y, .bool b]) := by simp [abuild, wt, aplaces, Instr.fill, Value.cells]
theorem build_r012 {x y z : Int} : abuild prog 37 #[(0, .int .i64 x), (1, .int .i64 y), (2, .int .i64 z)] = some (.agg #[.int .i64 x, .int .i64 y, .int .i64 z, .bool false]) := by simp [abuild, wt, aplaces, Instr.fill, Value.cells]
theorem bsr {h : Heap} {x y z : Int} {b : Bool} : abuildSlice prog h 28 1 #[(0, .agg #[.int .i64 x, .int .i64 y, .int .i64 z, .bool b])] = some (.slice (some ⟨h.size, 0, none⟩) 1 2, h.new 37 (cR ⟨x, y, z, b⟩)) :=
  buildA4 underlying28 asz37 azero37 rfl rfl rfl rfl rfl
theorem sameR_ok {a b : Value} {l : List Rw} {h : Heap} (ha : RR h a l) (hb : RR h b l) (hl : l.length ≤ 9223372036854775807) : ACalls prog 10 #[a, b] h (fun v h' => v = .bool true ∧ h' = h) := by
  refine acalls_of_W func10 rfl (by kernel_rfl) (by kernel_rfl) (by simp [ntmps10]) ?_
  have d0 : decide (¬ ((l.length : Nat) : Int) = l.length) = false := decide_eq_false (by simp)
  simp only [wk, wt, wl, ↓reduceIte, Nat.reduceEqDiff, Nat.reduceAdd, Nat.zero_add, not_false_eq_true, not_true_eq_false, ha.len underlying28, hb.len underlying28, d0]
  refine W_loop (fun tm h' => h' = h ∧ tm 0 = a ∧ tm 1 = b ∧ ∃ i : Nat, tm 5 = .int .i64 i ∧ i ≤ l.length) (fun tm _ => (l.length - intOf (tm 5)).toNat) ⟨rfl, (by first | rfl | (simp only [wk, wt, wl, ↓reduceIte, Nat.reduceEqDiff, Nat.reduceAdd, Nat.zero_add, not_false_eq_true, not_true_eq_false]; done) | (simp only [wk, wt, wl, ↓reduceIte, Nat.reduceEqDiff, Nat.reduceAdd, Nat.zero_add, not_false_eq_true, not_true_eq_false]; rfl)), (by first | rfl | (simp only [wk, wt, wl, ↓reduceIte, Nat.reduceEqDiff, Nat.reduceAdd, Nat.zero_add, not_false_eq_true, not_true_eq_false]; done) | (simp only [wk, wt, wl, ↓reduceIte, Nat.reduceEqDiff, Nat.reduceAdd, Nat.zero_add, not_false_eq_true, not_true_eq_false]; rfl)), 0, (by first | rfl | (simp only [wk, wt, wl, ↓reduceIte, Nat.reduceEqDiff, Nat.reduceAdd, Nat.zero_add, not_false_eq_true, not_true_eq_false]; done) | (simp only [wk, wt, wl, ↓reduceIte, Nat.reduceEqDiff, Nat.reduceAdd, Nat.zero_add, not_false_eq_true, not_true_eq_false]; rfl)), by omega⟩ ?_
  rintro tm h' ⟨rfl, t0, t1, i, t5, hi⟩
  simp only [wk, wt, wl, ↓reduceIte, Nat.reduceEqDiff, Nat.reduceAdd, Nat.zero_add, not_false_eq_true, not_true_eq_false, t0, t1, t5, ha.len underlying28]
  refine condK_dec (fun hd => ?_) (fun hd => ?_)
  · have hi1 : i < l.length := by omega
    obtain ⟨f, hx⟩ : ∃ f, l[i]? = some f := ⟨l[i], by simp [hi1]⟩
    obtain ⟨A0, A1, A2, A3, A4⟩ := RR.flds ha hx
    obtain ⟨B0, B1, B2, B3, B4⟩ := RR.flds hb hx
    have IA := Rd.index ha underlying28 asz37 (q := .i64) (i := (i : Int)) (by omega) (by omega)
    have IB := Rd.index hb underlying28 asz37 (q := .i64) (i := (i : Int)) (by omega) (by omega)
    simp only [Int.toNat_natCast] at IA IB
    simp only [wk, wt, wl, ↓reduceIte, Nat.reduceEqDiff, Nat.reduceAdd, Nat.zero_add, not_false_eq_true, not_true_eq_false]
    refine adraw_order [(0, false), (1, false), (2, false), (3, false), (4, false), (5, false), (6, false), (7, false), (8, false)] mixed (by kernel_rfl) (by kernel_rfl) (by kernel_rfl) (by repeat (first | exact PF_retK | refine PF_thenK ?_ | refine PF_blockK ?_)) ?_
    simp (disch := omega) only [wk, wt, wl, ↓reduceIte, Nat.reduceEqDiff, Nat.reduceAdd, Nat.zero_add, not_false_eq_true, not_true_eq_false, t0, t1, t5, IA, IB, A4, B4, neq_row, IntWalk.i64_in, intOf_int]
    exact ⟨⟨i + 1, by simp, by omega⟩, by omega⟩
  · simp only [wk, wt, wl, ↓reduceIte, Nat.reduceEqDiff, Nat.reduceAdd, Nat.zero_add, not_false_eq_true, not_true_eq_false]
/-- A text: lines of runes. -/
def LT (h : Heap) (v : Value) (ls : List (List Int)) : Prop :=
  ∃ vs : List Value, vs.length = ls.length ∧ Rd prog h 1 v vs.length vs ∧ ∀ (i : Nat) x xs, vs[i]? = some x → ls[i]? = some xs → RdI prog h .i32 x xs
theorem LT.keeps {h h' : Heap} {v : Value} {ls : List (List Int)} (T : LT h v ls) (K : Keeps h h') : LT h' v ls := by
  obtain ⟨vs, h1, h2, h3⟩ := T
  exact ⟨vs, h1, h2.keeps K, fun i x xs hx hl => (h3 i x xs hx hl).keeps K⟩
theorem LT.len {h : Heap} {v : Value} {ls : List (List Int)} (T : LT h v ls) : abuiltin prog .len #[22] #[v] = some (.int .i64 ls.length) := by
  obtain ⟨vs, h1, h2, h3⟩ := T
  rw [← h1]; exact h2.len underlying22
theorem LT.index {h : Heap} {v : Value} {ls : List (List Int)} (T : LT h v ls) {i : Nat} (hi : i < ls.length) : aindexAddr prog 22 v (.int .i64 (i : Int)) = some (.pointer (some (eltA v 1 i))) := by
  obtain ⟨vs, h1, h2, h3⟩ := T
  have := Rd.index h2 underlying22 asz43 (q := .i64) (i := (i : Int)) (by omega) (by omega)
  simpa using this
theorem LT.at {h : Heap} {v : Value} {ls : List (List Int)} (T : LT h v ls) {i : Nat} {xs : List Int} (hx : ls[i]? = some xs) : ∃ x, aload prog h 43 (eltA v 1 i) = some x ∧ RdI prog h .i32 x xs := by
  obtain ⟨vs, h1, h2, h3⟩ := T
  have hi : i < vs.length := by have := (List.getElem?_eq_some_iff.1 hx).1; omega
  have hv : vs[i]? = some vs[i] := List.getElem?_eq_getElem hi
  refine ⟨vs[i], ?_, h3 i _ xs hv hx⟩
  have := Rd.at0 h2 (t := 43) underlying43 rfl hi (by decide)
  rw [this, Nat.mul_one, hv]
def sumL (ls : List (List Int)) : Nat := (ls.map List.length).sum
theorem sumL_take {ls : List (List Int)} {i : Nat} {xs : List Int} (hx : ls[i]? = some xs) : sumL (ls.take (i + 1)) = sumL (ls.take i) + xs.length := by
  simp [sumL, List.take_add_one, hx]
theorem sumL_le {ls : List (List Int)} (i : Nat) : sumL (ls.take i) ≤ sumL ls := by
  have : ls = ls.take i ++ ls.drop i := (List.take_append_drop i ls).symm
  have h2 : sumL ls = sumL (ls.take i) + sumL (ls.drop i) := by
    conv => lhs; rw [this]
    simp only [sumL, List.map_append, List.sum_append]
  omega
theorem sumL_get {ls : List (List Int)} {i : Nat} {xs : List Int} (hx : ls[i]? = some xs) : xs.length ≤ sumL ls := by
  have h1 := sumL_take hx
  have h2 := sumL_le (ls := ls) (i + 1)
  omega
def runesZ (ls : List (List Int)) : Int := if 0 < (ls.length : Int) - 1 + sumL ls then (ls.length : Int) - 1 + sumL ls else 0
theorem textRunes_ok {v : Value} {ls : List (List Int)} {h : Heap} (T : LT h v ls) (hb : sumL ls ≤ 2305843009213693952) (hl : ls.length ≤ 2305843009213693952) : ACalls prog 43 #[v] h (fun y h' => y = .int .i64 (runesZ ls) ∧ h' = h) := by
  refine acalls_of_W func43 rfl (by kernel_rfl) (by kernel_rfl) (by simp [ntmps43]) ?_
  simp (disch := omega) only [wk, wt, wl, ↓reduceIte, Nat.reduceEqDiff, Nat.reduceAdd, Nat.zero_add, not_false_eq_true, not_true_eq_false, T.len, IntWalk.i64_in]
  refine W_loop (fun tm h' => h' = h ∧ tm 0 = v ∧ ∃ i : Nat, tm 4 = .int .i64 i ∧ tm 3 = .int .i64 ((ls.length : Int) - 1 + sumL (ls.take i)) ∧ i ≤ ls.length) (fun tm _ => (ls.length - intOf (tm 4)).toNat) ⟨rfl, (by first | rfl | (simp only [wk, wt, wl, ↓reduceIte, Nat.reduceEqDiff, Nat.reduceAdd, Nat.zero_add, not_false_eq_true, not_true_eq_false]; done) | (simp only [wk, wt, wl, ↓reduceIte, Nat.reduceEqDiff, Nat.reduceAdd, Nat.zero_add, not_false_eq_true, not_true_eq_false]; rfl)), 0, (by first | rfl | (simp only [wk, wt, wl, ↓reduceIte, Nat.reduceEqDiff, Nat.reduceAdd, Nat.zero_add, not_false_eq_true, not_true_eq_false]; done) | (simp only [wk, wt, wl, ↓reduceIte, Nat.reduceEqDiff, Nat.reduceAdd, Nat.zero_add, not_false_eq_true, not_true_eq_false]; rfl)), by (simp only [wk, wt, wl, ↓reduceIte, Nat.reduceEqDiff, Nat.reduceAdd, Nat.zero_add, not_false_eq_true, not_true_eq_false]); simp [sumL], by omega⟩ ?_
  rintro tm h' ⟨rfl, t0, i, t4, t3, hi⟩
  simp only [wk, wt, wl, ↓reduceIte, Nat.reduceEqDiff, Nat.reduceAdd, Nat.zero_add, not_false_eq_true, not_true_eq_false, t0, t3, t4, T.len]
  refine condK_dec (fun hd => ?_) (fun hd => ?_)
  · have hi1 : i < ls.length := by omega
    obtain ⟨xs, hx⟩ : ∃ f, ls[i]? = some f := ⟨ls[i], by simp [hi1]⟩
    obtain ⟨x, A1, A2⟩ := T.at hx
    have h1 := sumL_take hx
    have h2 := sumL_le (ls := ls) (i + 1)
    simp (disch := omega) only [wk, wt, wl, ↓reduceIte, Nat.reduceEqDiff, Nat.reduceAdd, Nat.zero_add, not_false_eq_true, not_true_eq_false, t0, t3, t4, T.index hi1, A1, A2.len underlying43, IntWalk.i64_in, intOf_int]
    exact ⟨⟨i + 1, by simp, by rw [h1]; simp only [Value.int.injEq, true_and]; omega, by omega⟩, by omega⟩
  · have hil : ls.take i = ls := List.take_of_length_le (by omega)
    simp only [wk, wt, wl, ↓reduceIte, Nat.reduceEqDiff, Nat.reduceAdd, Nat.zero_add, not_false_eq_true, not_true_eq_false, t3, hil, abuiltin_max]
    refine ⟨?_, trivial⟩
    simp only [runesZ, Value.int.injEq, true_and]
    split <;> split <;> omega
def smallB (ls : List (List Int)) : Bool := decide ((ls.length : Int) ≤ 300) && decide (runesZ ls ≤ 3000)
theorem smallText_ok {v : Value} {ls : List (List Int)} {h : Heap} (T : LT h v ls) (hb : ls.length ≤ 300 → sumL ls ≤ 2305843009213693952) (hl : ls.length ≤ 2305843009213693952) : ACalls prog 25 #[v] h (fun y h' => y = .bool (smallB ls) ∧ h' = h) := by
  refine acalls_of_W func25 rfl (by kernel_rfl) (by kernel_rfl) (by simp [ntmps25]) ?_
  by_cases h1 : (ls.length : Int) ≤ 300
  · have d1 : decide ((ls.length : Int) ≤ 300) = true := decide_eq_true h1
    simp only [wk, wt, wl, ↓reduceIte, Nat.reduceEqDiff, Nat.reduceAdd, Nat.zero_add, not_false_eq_true, not_true_eq_false, T.len, d1]
    refine (textRunes_ok T (hb (by omega)) hl).use_pure ?_
    simp only [wk, wt, wl, ↓reduceIte, Nat.reduceEqDiff, Nat.reduceAdd, Nat.zero_add, not_false_eq_true, not_true_eq_false]
    simp [smallB, d1]
  · have d1 : decide ((ls.length : Int) ≤ 300) = false := decide_eq_false h1
    simp only [wk, wt, wl, ↓reduceIte, Nat.reduceEqDiff, Nat.reduceAdd, Nat.zero_add, not_false_eq_true, not_true_eq_false, T.len, d1]
    simp [smallB, d1]
def lookV (fv : Value) (cols tab : Int) (wrap : Bool) : Value := .agg #[fv, .int .i64 cols, .int .i64 tab, .bool wrap]
def lookC (fv : Value) (cols tab : Int) (wrap : Bool) : List Value := [fv, .int .i64 cols, .int .i64 tab, .bool wrap]
theorem box_look {tm : Tm} {h : Heap} {t : Nat} {fv : Value} {cols tab : Int} {wrap : Bool} (hf : one fv = true) (ht : tm t = lookV fv cols tab wrap) : aeff prog tm h (.box 25 (.tmp t)) = some (.pointer (some ⟨h.size, 0, none⟩), h.new 25 (lookC fv cols tab wrap)) :=
  box_new (by simp [ev, ht, lookV, lookC, Value.cells]) ⟨_, asz25⟩ (by show (Value.cells (tm t)).all one = true; rw [ht]; simp [lookV, Value.cells, hf, one_int, one_bool])
def fitB (ls : List (List Int)) (l : List F) : Bool := nearF l && smallB ls
theorem fit_ok {v fv : Value} {ls : List (List Int)} {l : List F} {cols tab : Int} {wrap : Bool} {h : Heap} (T : LT h v ls) (R : FR h fv l) (hb : ls.length ≤ 300 → sumL ls ≤ 2305843009213693952) (hl : ls.length ≤ 2305843009213693952) (hfl : l.length ≤ 2305843009213693952) :
    ACalls prog 9 #[v, lookV fv cols tab wrap] h (fun y h' => y = .bool (fitB ls l) ∧ Keeps h h') := by
  refine acalls_of_W' func9 rfl (by kernel_rfl) (by kernel_rfl) (by simp [ntmps9]) ?_
  intro H
  have K0 := Keeps.new H 25 (lookC fv cols tab wrap)
  have V0 := Var.new (e := 25) H (cs := lookC fv cols tab wrap)
  have WF : aload prog (h.new 25 (lookC fv cols tab wrap)) 23 ⟨h.size, 0, none⟩ = some fv := V0.load1 (P := prog) underlying23 rfl (i := 0)
  have R := RS.keeps R K0
  have T := T.keeps K0
  simp only [wk, wt, wl, ↓reduceIte, Nat.reduceEqDiff, Nat.reduceAdd, Nat.zero_add, not_false_eq_true, not_true_eq_false, box_look (tm := atm #[v, lookV fv cols tab wrap]) (t := 1) (h := h) R.one rfl]
  generalize hh0 : h.new 25 (lookC fv cols tab wrap) = h0 at *
  refine W_loop (fun tm h' => h' = h0 ∧ tm 0 = v ∧ tm 3 = .pointer (some ⟨h.size, 0, none⟩) ∧ ∃ (i : Nat), tm 5 = .int .i64 i ∧ i ≤ l.length ∧ nearF l = nearF (l.drop i)) (fun tm _ => (l.length - intOf (tm 5)).toNat) ⟨rfl, (by first | rfl | (simp only [wk, wt, wl, ↓reduceIte, Nat.reduceEqDiff, Nat.reduceAdd, Nat.zero_add, not_false_eq_true, not_true_eq_false]; done) | (simp only [wk, wt, wl, ↓reduceIte, Nat.reduceEqDiff, Nat.reduceAdd, Nat.zero_add, not_false_eq_true, not_true_eq_false]; rfl)), (by first | rfl | (simp only [wk, wt, wl, ↓reduceIte, Nat.reduceEqDiff, Nat.reduceAdd, Nat.zero_add, not_false_eq_true, not_true_eq_false]; done) | (simp only [wk, wt, wl, ↓reduceIte, Nat.reduceEqDiff, Nat.reduceAdd, Nat.zero_add, not_false_eq_true, not_true_eq_false]; rfl)), 0, (by first | rfl | (simp only [wk, wt, wl, ↓reduceIte, Nat.reduceEqDiff, Nat.reduceAdd, Nat.zero_add, not_false_eq_true, not_true_eq_false]; done) | (simp only [wk, wt, wl, ↓reduceIte, Nat.reduceEqDiff, Nat.reduceAdd, Nat.zero_add, not_false_eq_true, not_true_eq_false]; rfl)), by omega, rfl⟩ ?_
  rintro tm h' ⟨rfl, t0, t3, i, t5, hi, hg⟩
  simp only [wk, wt, wl, ↓reduceIte, Nat.reduceEqDiff, Nat.reduceAdd, Nat.zero_add, not_false_eq_true, not_true_eq_false, t0, t3, t5, WF, R.len underlying23]
  refine condK_dec (fun hd => ?_) (fun hd => ?_)
  · have hi1 : i < l.length := by omega
    obtain ⟨f, hx⟩ : ∃ f, l[i]? = some f := ⟨l[i], by simp [hi1]⟩
    obtain ⟨F0, F1, F2, F3⟩ := FR.flds R hx
    have IX := Rd.index R underlying23 asz56 (q := .i64) (i := (i : Int)) (by omega) (by omega)
    simp only [Int.toNat_natCast] at IX
    rw [dropAt hx] at hg
    simp only [nearF, List.all_cons] at hg
    by_cases h1 : 1099511627776 < f.to
    · have d1 : decide (1099511627776 < f.to) = true := decide_eq_true h1
      have fin : fitB ls l = false := by simp only [fitB, nearF, hg]; rw [decide_eq_false (by omega)]; simp
      simp (disch := omega) only [wk, wt, wl, ↓reduceIte, Nat.reduceEqDiff, Nat.reduceAdd, Nat.zero_add, not_false_eq_true, not_true_eq_false, t0, t3, t5, WF, IX, F0, F1, d1]
      rw [fin]; exact ⟨rfl, K0⟩
    · have d1 : decide (1099511627776 < f.to) = false := decide_eq_false h1
      by_cases h2 : f.fr < -1099511627776
      · have d2 : decide (f.fr < -1099511627776) = true := decide_eq_true h2
        have fin : fitB ls l = false := by simp only [fitB, nearF, hg]; rw [decide_eq_false (p := -1099511627776 ≤ f.fr) (by omega)]; simp
        simp (disch := omega) only [wk, wt, wl, ↓reduceIte, Nat.reduceEqDiff, Nat.reduceAdd, Nat.zero_add, not_false_eq_true, not_true_eq_false, t0, t3, t5, WF, IX, F0, F1, d1, d2]
        rw [fin]; exact ⟨rfl, K0⟩
      · have d2 : decide (f.fr < -1099511627776) = false := decide_eq_false h2
        rw [decide_eq_true (p := f.to ≤ 1099511627776) (by omega), decide_eq_true (p := -1099511627776 ≤ f.fr) (by omega)] at hg
        simp (disch := omega) only [wk, wt, wl, ↓reduceIte, Nat.reduceEqDiff, Nat.reduceAdd, Nat.zero_add, not_false_eq_true, not_true_eq_false, t0, t3, t5, WF, IX, F0, F1, d1, d2, IntWalk.i64_in, intOf_int]
        exact ⟨⟨i + 1, by simp, by omega, by simpa [nearF] using hg⟩, by omega⟩
  · rw [List.drop_of_length_le (by omega)] at hg
    have hg' : nearF l = true := hg
    simp only [wk, wt, wl, ↓reduceIte, Nat.reduceEqDiff, Nat.reduceAdd, Nat.zero_add, not_false_eq_true, not_true_eq_false, t0]
    refine (smallText_ok T hb hl).use_pure ?_
    simp only [wk, wt, wl, ↓reduceIte, Nat.reduceEqDiff, Nat.reduceAdd, Nat.zero_add, not_false_eq_true, not_true_eq_false]
    exact ⟨by simp [fitB, hg'], K0⟩
end Go.Proofs.YtmjdebeikcogkaaDoor.Am
end
section
/- Views: the rows of a line in plain terms; contracts of the document's line and Rows, by walks. -/
set_option linter.unusedSimpArgs false
set_option linter.unusedVariables false
set_option maxHeartbeats 4000000
set_option maxRecDepth 20000
namespace Go.Proofs.YtmjdebeikcogkaaDoor.Am
open Go Go.RowKit Go.Proofs.Tryd
/-- Where the rows of a line begin and end. -/
def rowsG (cols : Int) (wrap : Bool) : List U → Int → Int → List (Int × Int)
  | [], f, t => [(f, t)]
  | u :: us, f, t => if wrap = false ∨ u.col = 0 ∨ u.col + u.wd - f ≤ cols then rowsG cols wrap us f (u.col + u.wd) else (f, t) :: rowsG cols wrap us u.col (u.col + u.wd)
def mkR (i : Int) (p : Int × Int) : Rw := ⟨i, p.1, p.2, false⟩
theorem rowsG_flat {cols : Int} : ∀ {us : List U} {f t : Int}, rowsG cols false us f t = [(f, endOf us t)]
  | [], f, t => rfl
  | u :: us, f, t => by rw [rowsG, if_pos (.inl rfl), rowsG_flat, endOf_cons]
theorem rowsG_len {cols : Int} {wrap : Bool} : ∀ {us : List U} {f t : Int}, (rowsG cols wrap us f t).length ≤ us.length + 1
  | [], f, t => Nat.le_refl _
  | u :: us, f, t => by
    rw [rowsG]
    split
    · have := rowsG_len (cols := cols) (wrap := wrap) (us := us) (f := f) (t := u.col + u.wd); simp only [List.length_cons]; omega
    · have := rowsG_len (cols := cols) (wrap := wrap) (us := us) (f := u.col) (t := u.col + u.wd); simp only [List.length_cons]; omega
theorem chain_cols {a c e f : Int} {us : List U} (H : Chain a c us e f) : ∀ {k : Nat} {u : U}, us[k]? = some u → (k = 0 → u.col = c) ∧ (0 < k → c < u.col) := by
  induction H with
  | nil => intro k u h; simp at h
  | cons h1 h2 h3 h4 h5 h ih =>
    intro k u hk
    cases k with
    | zero => simp at hk; subst hk; exact ⟨fun _ => h3, fun h => by omega⟩
    | succ k =>
      simp at hk
      refine ⟨fun h => by omega, fun _ => ?_⟩
      rcases Nat.eq_zero_or_pos k with rfl | hp
      · have := (ih hk).1 rfl; omega
      · have := (ih hk).2 hp; omega
theorem fm_set {α : Type} {c : α → List Value} {s : Nat} (hc : ∀ x, (c x).length = s) {x y : α} {j : Nat} {w : Value} (hj : j < s) (hy : c y = (c x).set j w) : ∀ {l : List α}, ((l ++ [x]).flatMap c).set (l.length * s + j) w = (l ++ [y]).flatMap c
  | [] => by simp [hy]
  | z :: l => by
    have ih := fm_set hc hj hy (l := l)
    simp only [List.cons_append, List.flatMap_cons, List.length_cons, Nat.add_mul, Nat.one_mul] at ih ⊢
    rw [List.set_append_right _ _ (by rw [hc]; omega), hc, show l.length * s + s + j - s = l.length * s + j by omega, ih]
theorem refLine_ok {a : Value} {line : List Int} {i cols tab : Int} {wrap : Bool} {h : Heap} (ha : RdI prog h .i32 a line) (hline : ∀ j, isR (line.getD j 0)) (hlen : line.length ≤ 10000) :
    ACalls prog 30 #[a, .int .i64 i, .int .i64 cols, .int .i64 tab, .bool wrap] h (fun v h' => RR h' v ((rowsG cols wrap (unitsL line tab) 0 0).map (mkR i)) ∧ Keeps h h') := by
  refine acalls_of_W' func30 rfl (by kernel_rfl) (by kernel_rfl) (by simp [ntmps30]) ?_
  intro H
  simp only [wk, wt, wl, ↓reduceIte, Nat.reduceEqDiff, Nat.reduceAdd, Nat.zero_add, not_false_eq_true, not_true_eq_false]
  refine (refUnits_ok ha hline hlen).use ?_
  rintro l h2 ⟨uv, hu, R, K⟩
  have hul : uv.length = (unitsL line tab).length := by rw [← hu]; simp
  cases hw : wrap with
  | false =>
    simp only [wk, wt, wl, ↓reduceIte, Nat.reduceEqDiff, Nat.reduceAdd, Nat.zero_add, not_false_eq_true, not_true_eq_false, Bool.not_false]
    refine (refColumns_ok (ha.keeps K) hline hlen).use ?_
    rintro _ h3 ⟨rfl, K3⟩
    simp (disch := omega) only [wk, wt, wl, ↓reduceIte, Nat.reduceEqDiff, Nat.reduceAdd, Nat.zero_add, not_false_eq_true, not_true_eq_false, build_r02, bsr]
    have K4 := Keeps.new (Ch.wf K3) 37 (cR ⟨i, 0, endOf (unitsL line tab) 0, false⟩)
    refine ⟨?_, (K.trans K3).trans K4⟩
    rw [rowsG_flat]
    exact Rd.new (Ch.wf K3) asz37 rfl
  | true =>
    by_cases hz : (uv.length : Int) = 0
    · have d1 : decide ((uv.length : Int) = 0) = true := decide_eq_true hz
      simp only [wk, wt, wl, ↓reduceIte, Nat.reduceEqDiff, Nat.reduceAdd, Nat.zero_add, not_false_eq_true, not_true_eq_false, Bool.not_true, R.rd.len underlying41, d1]
      refine (refColumns_ok (ha.keeps K) hline hlen).use ?_
      rintro _ h3 ⟨rfl, K3⟩
      simp (disch := omega) only [wk, wt, wl, ↓reduceIte, Nat.reduceEqDiff, Nat.reduceAdd, Nat.zero_add, not_false_eq_true, not_true_eq_false, build_r02, bsr]
      have K4 := Keeps.new (Ch.wf K3) 37 (cR ⟨i, 0, endOf (unitsL line tab) 0, false⟩)
      refine ⟨?_, (K.trans K3).trans K4⟩
      have hnil : unitsL line tab = [] := List.eq_nil_of_length_eq_zero (by omega)
      rw [hnil]
      exact Rd.new (Ch.wf K3) asz37 rfl
    · have d1 : decide ((uv.length : Int) = 0) = false := decide_eq_false hz
      obtain ⟨wd, hch, _⟩ := unitsL_chain (line := line) (tab := tab)
      have hok := unitsL_ok (line := line) (tab := tab)
      simp only [wk, wt, wl, ↓reduceIte, Nat.reduceEqDiff, Nat.reduceAdd, Nat.zero_add, not_false_eq_true, not_true_eq_false, Bool.not_true, R.rd.len underlying41, d1]
      refine W_loop (fun tm h' => Keeps h2 h' ∧ tm 1 = .int .i64 i ∧ tm 2 = .int .i64 cols ∧ tm 11 = l ∧ ∃ (k : Nat) (ov : Value) (out : List (Int × Int)), tm 13 = .int .i64 k ∧ tm 12 = ov ∧ k ≤ uv.length ∧ OS prog h2.size h' 4 cR ov (out.map (mkR i)) ∧ out.length ≤ k ∧
          ((k = 0 ∧ out = []) ∨ ∃ pre f t ad, out = pre ++ [(f, t)] ∧ 1 ≤ k ∧ ov = .slice (some ad) out.length 0 ∧ 0 ≤ f ∧ f ≤ 640000 ∧ pre ++ rowsG cols true ((unitsL line tab).drop k) f t = rowsG cols true (unitsL line tab) 0 0)) (fun tm _ => (uv.length - intOf (tm 13)).toNat)
        ⟨Keeps.refl (Ch.wf K), (by first | rfl | (simp only [wk, wt, wl, ↓reduceIte, Nat.reduceEqDiff, Nat.reduceAdd, Nat.zero_add, not_false_eq_true, not_true_eq_false]; done) | (simp only [wk, wt, wl, ↓reduceIte, Nat.reduceEqDiff, Nat.reduceAdd, Nat.zero_add, not_false_eq_true, not_true_eq_false]; rfl)), (by first | rfl | (simp only [wk, wt, wl, ↓reduceIte, Nat.reduceEqDiff, Nat.reduceAdd, Nat.zero_add, not_false_eq_true, not_true_eq_false]; done) | (simp only [wk, wt, wl, ↓reduceIte, Nat.reduceEqDiff, Nat.reduceAdd, Nat.zero_add, not_false_eq_true, not_true_eq_false]; rfl)), (by first | rfl | (simp only [wk, wt, wl, ↓reduceIte, Nat.reduceEqDiff, Nat.reduceAdd, Nat.zero_add, not_false_eq_true, not_true_eq_false]; done) | (simp only [wk, wt, wl, ↓reduceIte, Nat.reduceEqDiff, Nat.reduceAdd, Nat.zero_add, not_false_eq_true, not_true_eq_false]; rfl)), 0, .slice none 0 0, [], (by first | rfl | (simp only [wk, wt, wl, ↓reduceIte, Nat.reduceEqDiff, Nat.reduceAdd, Nat.zero_add, not_false_eq_true, not_true_eq_false]; done) | (simp only [wk, wt, wl, ↓reduceIte, Nat.reduceEqDiff, Nat.reduceAdd, Nat.zero_add, not_false_eq_true, not_true_eq_false]; rfl)), (by first | rfl | (simp only [wk, wt, wl, ↓reduceIte, Nat.reduceEqDiff, Nat.reduceAdd, Nat.zero_add, not_false_eq_true, not_true_eq_false]; done) | (simp only [wk, wt, wl, ↓reduceIte, Nat.reduceEqDiff, Nat.reduceAdd, Nat.zero_add, not_false_eq_true, not_true_eq_false]; rfl)), by omega, OS.nil, by simp, .inl ⟨rfl, rfl⟩⟩ ?_
      rintro tm h' ⟨K2, t1, t2, t11, k, ov, out, t13, t12, hk, O, hol, hor⟩
      have R' := R.keeps K2
      simp (disch := omega) only [wk, wt, wl, ↓reduceIte, Nat.reduceEqDiff, Nat.reduceAdd, Nat.zero_add, not_false_eq_true, not_true_eq_false, t1, t2, t11, t12, t13, R'.rd.len underlying41]
      refine condK_dec (fun hd => ?_) (fun hd => ?_)
      · have hk1 : k < uv.length := by omega
        obtain ⟨⟨u, tv⟩, hx⟩ : ∃ x, uv[k]? = some x := ⟨uv[k], by simp [hk1]⟩
        have hux : (unitsL line tab)[k]? = some u := by rw [← hu, List.getElem?_map, hx]; rfl
        obtain ⟨hc0, hc1⟩ := chain_cols hch hux
        have hue := hok.each u (List.mem_of_getElem? hux)
        have hcc := hok.col1
        obtain ⟨F0, F1, F2, F3, F4⟩ := R'.field hx
        have IX := Rd.index R'.rd underlying41 asz45 (q := .i64) (i := (k : Int)) (by omega) (by omega)
        simp only [Int.toNat_natCast] at IX
        have wend : IntKind.i64.wrap (u.col + u.wd) = u.col + u.wd := IntWalk.i64_in _ (by omega)
        simp (disch := omega) only [wk, wt, wl, ↓reduceIte, Nat.reduceEqDiff, Nat.reduceAdd, Nat.zero_add, not_false_eq_true, not_true_eq_false]
        refine adraw_order [(0, false), (1, false), (2, false), (3, false), (4, false), (5, false), (6, false), (7, false), (8, false), (9, false), (10, false), (11, false)] mixed (by kernel_rfl) (by kernel_rfl) (by kernel_rfl) (by repeat (first | exact PF_retK | refine PF_thenK ?_ | refine PF_blockK ?_)) ?_
        simp (disch := omega) only [wk, wt, wl, ↓reduceIte, Nat.reduceEqDiff, Nat.reduceAdd, Nat.zero_add, not_false_eq_true, not_true_eq_false, t1, t2, t11, t12, t13, IX, F2, F3, wend]
        rcases hor with ⟨rfl, rfl⟩ | ⟨pre, f, t, ad, rfl, hk0, rfl, hf0, hf1, hrow⟩
        · have dk : decide ((0 : Int) < ((0 : Nat) : Int)) = false := by decide
          have hcz := hc0 rfl
          simp (disch := omega) only [wk, wt, wl, ↓reduceIte, Nat.reduceEqDiff, Nat.reduceAdd, Nat.zero_add, not_false_eq_true, not_true_eq_false, t1, t2, t11, t12, t13, dk, IX, F2, F3, build_r012, bsr]
          obtain ⟨v2, h3, e2, O2, C2, RD2, ev2⟩ := O.append1 (P := prog) (Ch.wf K2) (Ch.le K2) underlying28 elem37 fits37 (by decide) (by decide) ⟨i, u.col, u.col + u.wd, false⟩ rfl (by simp)
          rw [e2]; clear e2
          have KK := K2.step C2 fun b hb => hb.2
          simp (disch := omega) only [wk, wt, wl, ↓reduceIte, Nat.reduceEqDiff, Nat.reduceAdd, Nat.zero_add, not_false_eq_true, not_true_eq_false, t1, t2, t11, t13, IntWalk.i64_in, intOf_int]
          refine ⟨⟨KK, 1, v2, [(u.col, u.col + u.wd)], by simp, rfl, by omega, O2, by simp, .inr ⟨[], u.col, u.col + u.wd, _, rfl, Nat.le_refl _, ev2, by omega, by omega, ?_⟩⟩, by omega⟩
          have e0 : unitsL line tab = u :: (unitsL line tab).drop 1 := by simpa using dropAt hux
          conv => rhs; rw [e0]
          rw [rowsG, if_pos (.inr (.inl hcz)), hcz]; rfl
        · have dk : decide ((0 : Int) < (k : Int)) = true := decide_eq_true (by omega)
          have hcp := hc1 (by omega)
          simp only [List.map_append, List.map_cons, List.map_nil, List.length_append, List.length_cons, List.length_nil, Nat.zero_add] at O hol t12 ⊢
          have Rout : RR h' (.slice (some ad) (pre.length + 1) 0) (pre.map (mkR i) ++ [mkR i (f, t)]) := O.rs
          have hlast : (pre.map (mkR i) ++ [mkR i (f, t)])[pre.length]? = some (mkR i (f, t)) := by
            rw [List.getElem?_append_right (by simp)]; simp
          obtain ⟨A0, A1, A2, A3, A4⟩ := RR.flds Rout hlast
          simp only [mkR] at A0 A1 A2 A3 A4
          have hul2 := hok.len
          have L2 : abuiltin prog .len #[28] #[.slice (some ad) (pre.length + 1) 0] = some (.int .i64 ((pre.length : Int) + 1)) := by
            have := Rout.len underlying28
            simpa using this
          have IX2 := Rd.index Rout underlying28 asz37 (q := .i64) (i := (pre.length : Int)) (by omega) (by simp only [List.length_append, List.length_map, List.length_cons, List.length_nil]; omega)
          simp only [Int.toNat_natCast] at IX2
          have w1 : IntKind.i64.wrap ((pre.length : Int) + 1 - 1) = (pre.length : Int) := by rw [IntWalk.i64_in _ (by omega)]; omega
          have w2 : IntKind.i64.wrap (u.col + u.wd - f) = u.col + u.wd - f := IntWalk.i64_in _ (by omega)
          have hdr := dropAt hux
          rw [hdr] at hrow
          by_cases hfit : u.col + u.wd - f ≤ cols
          · have df : decide (u.col + u.wd - f ≤ cols) = true := decide_eq_true hfit
            rw [rowsG, if_pos (.inr (.inr hfit))] at hrow
            have O1 : Own prog h2.size h' 4 (.slice (some ad) (pre.length + 1) 0) (pre.length + 1) ((pre.map (mkR i) ++ [mkR i (f, t)]).flatMap cR) := by
              have := O
              unfold OS at this
              simpa using this
            obtain ⟨bo, oo, ko, rfl, hBa, hko, _, _, _, _, _, hlt, _⟩ := Own.third O1
            obtain ⟨h3, e3, O3, C3, z3, _⟩ := Own.store (P := prog) (Ch.wf K2) O1 (t := 3) (w := .int .i64 (u.col + u.wd)) (i := pre.length) (j := 2) asz3 rfl (by omega) (by omega)
            have hfs := fm_set (c := cR) cR_len (x := mkR i (f, t)) (y := mkR i (f, u.col + u.wd)) (j := 2) (w := .int .i64 (u.col + u.wd)) (by omega) rfl (l := pre.map (mkR i))
            rw [List.length_map] at hfs
            rw [hfs] at O3
            have KK := K2.step C3 (famB rfl K2 hlt hBa)
            simp (disch := omega) only [wk, wt, wl, ↓reduceIte, Nat.reduceEqDiff, Nat.reduceAdd, Nat.zero_add, not_false_eq_true, not_true_eq_false, t1, t2, t11, t12, t13, dk, L2, w1, IX2, A1, w2, df]
            simp (disch := omega) only [wk, wt, wl, ↓reduceIte, Nat.reduceEqDiff, Nat.reduceAdd, Nat.zero_add, not_false_eq_true, not_true_eq_false, t1, t2, t11, t12, t13, L2, w1, IX2, e3, IntWalk.i64_in, intOf_int]
            refine ⟨⟨KK, k + 1, _, pre ++ [(f, u.col + u.wd)], by simp, rfl, by omega, ?_, by simp only [List.length_append, List.length_singleton]; omega, .inr ⟨pre, f, u.col + u.wd, ⟨bo, oo, none⟩, rfl, by omega, by simp, hf0, hf1, hrow⟩⟩, by omega⟩
            unfold OS
            simpa using O3
          · have df : decide (u.col + u.wd - f ≤ cols) = false := decide_eq_false hfit
            rw [rowsG, if_neg (by simp; omega)] at hrow
            simp (disch := omega) only [wk, wt, wl, ↓reduceIte, Nat.reduceEqDiff, Nat.reduceAdd, Nat.zero_add, not_false_eq_true, not_true_eq_false, t1, t2, t11, t12, t13, dk, L2, w1, IX2, A1, w2, df]
            simp (disch := omega) only [wk, wt, wl, ↓reduceIte, Nat.reduceEqDiff, Nat.reduceAdd, Nat.zero_add, not_false_eq_true, not_true_eq_false, t1, t2, t11, t12, t13, IX, F2, F3, build_r012, bsr]
            obtain ⟨v2, h3, e2, O2, C2, RD2, ev2⟩ := O.append1 (P := prog) (Ch.wf K2) (Ch.le K2) underlying28 elem37 fits37 (by decide) (by decide) ⟨i, u.col, u.col + u.wd, false⟩ rfl (by simp; omega)
            rw [e2]; clear e2
            have KK := K2.step C2 fun b hb => hb.2
            simp (disch := omega) only [wk, wt, wl, ↓reduceIte, Nat.reduceEqDiff, Nat.reduceAdd, Nat.zero_add, not_false_eq_true, not_true_eq_false, t1, t2, t11, t13, IntWalk.i64_in, intOf_int]
            refine ⟨⟨KK, k + 1, v2, (pre ++ [(f, t)]) ++ [(u.col, u.col + u.wd)], by simp, rfl, by omega, ?_, by simp only [List.length_append, List.length_singleton]; omega, .inr ⟨pre ++ [(f, t)], u.col, u.col + u.wd, ⟨h'.size + 1, 0, none⟩, rfl, by omega, by rw [ev2]; simp, by omega, by omega, by rw [← hrow]; simp⟩⟩, by omega⟩
            simpa [mkR] using O2
      · rcases hor with ⟨rfl, _⟩ | ⟨pre, f, t, ad, rfl, hk0, rfl, hf0, hf1, hrow⟩
        · omega
        · rw [List.drop_of_length_le (by omega), rowsG] at hrow
          simp (disch := omega) only [wk, wt, wl, ↓reduceIte, Nat.reduceEqDiff, Nat.reduceAdd, Nat.zero_add, not_false_eq_true, not_true_eq_false, t12]
          rw [← hrow]
          exact ⟨O.rs, K.trans K2⟩
end Go.Proofs.YtmjdebeikcogkaaDoor.Am
end
section
/- Views: all rows of a text in plain terms; the contract of the document's Rows, by a walk. -/
set_option linter.unusedSimpArgs false
set_option linter.unusedVariables false
set_option maxHeartbeats 4000000
set_option maxRecDepth 20000
namespace Go.Proofs.YtmjdebeikcogkaaDoor.Am
open Go Go.RowKit Go.Proofs.Tryd
def colsZ (cols : Int) : Int := if cols < 1 then 1 else cols
theorem colsZ' (cols : Int) : (if 1 < cols then cols else 1) = colsZ cols := by unfold colsZ; split <;> split <;> omega
def rowsOf (ls : List (List Int)) (cols tab : Int) (wrap : Bool) (f : F) : List Rw :=
  if f.cl = true then [⟨f.fr, 0, f.to + 1 - f.fr, true⟩] else (rowsG (colsZ cols) wrap (unitsL (ls.getD f.fr.toNat []) tab) 0 0).map (mkR f.fr)
def viewL (ls : List (List Int)) (cols tab : Int) (wrap : Bool) (r : List F) : List Rw := r.flatMap (rowsOf ls cols tab wrap)
/-- Lines of runes, none longer than so. -/
def TextOk (ls : List (List Int)) : Prop := ∀ (i : Nat) xs, ls[i]? = some xs → (∀ j, isR (xs.getD j 0)) ∧ xs.length ≤ 10000
theorem rowsOf_len {ls : List (List Int)} (H : TextOk ls) {cols tab : Int} {wrap : Bool} {f : F} : (rowsOf ls cols tab wrap f).length ≤ 10002 := by
  unfold rowsOf
  split
  · simp
  · rw [List.length_map]
    have h1 := rowsG_len (cols := colsZ cols) (wrap := wrap) (us := unitsL (ls.getD f.fr.toNat []) tab) (f := 0) (t := 0)
    have h2 := (unitsL_ok (line := ls.getD f.fr.toNat []) (tab := tab)).len
    have h3 : (ls.getD f.fr.toNat []).length ≤ 10000 := by
      cases hx : ls[f.fr.toNat]? with
      | none => simp [List.getD, hx]
      | some xs => have := (H _ _ hx).2; simpa [List.getD, hx] using this
    omega
theorem viewL_take {ls : List (List Int)} {cols tab : Int} {wrap : Bool} {r : List F} {k : Nat} {f : F} (hx : r[k]? = some f) : viewL ls cols tab wrap (r.take (k + 1)) = viewL ls cols tab wrap (r.take k) ++ rowsOf ls cols tab wrap f := by
  simp [viewL, List.take_add_one, hx]
theorem viewL_len {ls : List (List Int)} (H : TextOk ls) {cols tab : Int} {wrap : Bool} : ∀ {r : List F}, (viewL ls cols tab wrap r).length ≤ r.length * 10002
  | [] => by simp [viewL]
  | f :: r => by
    have h1 := rowsOf_len H (cols := cols) (tab := tab) (wrap := wrap) (f := f)
    have h2 := viewL_len H (cols := cols) (tab := tab) (wrap := wrap) (r := r)
    simp only [viewL, List.flatMap_cons, List.length_append, List.length_cons] at h2 ⊢
    omega
theorem rowsR_in {l : List F} {n i : Int} {r : List F} (H : RowsR l n i r) : 0 ≤ i → ∀ f, f ∈ r → i ≤ f.fr ∧ f.fr < n ∧ f.fr ≤ f.to ∧ f.to < n := by
  induction H with
  | done h => intro _ f hf; simp at hf
  | @step i r h t ih =>
    intro hi f hf
    have hnx : i + 1 ≤ nextZ1 l i := by
      unfold nextZ1
      rcases shownZ_range (l := l) (x := i) with e | ⟨k, g, _, _, _, _, g1, g2, e⟩
      · rw [e]; exact Int.le_refl _
      · rw [e]; simp only; omega
    rcases List.mem_cons.1 hf with rfl | hf
    · simp only
      refine ⟨Int.le_refl _, h, ?_, ?_⟩ <;> split <;> omega
    · obtain ⟨a, b, c, d⟩ := ih (by omega) f hf
      exact ⟨by omega, b, c, d⟩
theorem TextOk.get {ls : List (List Int)} (H : TextOk ls) {f : F} (h0 : 0 ≤ f.fr) (h1 : f.fr < ls.length) : ∃ (i : Nat) (xs : List Int), f.fr = (i : Int) ∧ i < ls.length ∧ ls[i]? = some xs ∧ ls.getD f.fr.toNat [] = xs ∧ (∀ j, isR (xs.getD j 0)) ∧ xs.length ≤ 10000 := by
  obtain ⟨i, hi⟩ : ∃ i : Nat, f.fr = (i : Int) := ⟨f.fr.toNat, by omega⟩
  have hlt : i < ls.length := by omega
  have hx : ls[i]? = some ls[i] := List.getElem?_eq_getElem hlt
  refine ⟨i, ls[i], hi, hlt, hx, ?_, H i _ hx⟩
  rw [hi]; simp [List.getD, hx]
def rightOr (l : List F) : List F := if rightB l = true then l else []
theorem refViewRows_ok {v fv : Value} {ls : List (List Int)} {l : List F} {cols tab : Int} {wrap : Bool} {h : Heap} (T : LT h v ls) (R : FR h fv l) (HT : TextOk ls) (hls : ls.length ≤ 300) (hl : l.length ≤ 2305843009213693952) (hn : nearF l = true) :
    ACalls prog 12 #[v, fv, .int .i64 cols, .int .i64 tab, .bool wrap] h (fun y h' => ∃ r, RowsR (rightOr l) ls.length 0 r ∧ r.length ≤ 3000 ∧ RR h' y (viewL ls cols tab wrap r) ∧ Keeps h h') := by
  refine acalls_of_W' func12 rfl (by kernel_rfl) (by kernel_rfl) (by simp [ntmps12]) ?_
  intro H
  simp only [wk, wt, wl, ↓reduceIte, Nat.reduceEqDiff, Nat.reduceAdd, Nat.zero_add, not_false_eq_true, not_true_eq_false]
  refine (refRight_ok R (by omega)).use_pure ?_
  cases hr : rightB l with
  | true =>
    simp only [wk, wt, wl, ↓reduceIte, Nat.reduceEqDiff, Nat.reduceAdd, Nat.zero_add, not_false_eq_true, not_true_eq_false, Bool.not_true, T.len]
    refine (refRows_ok (n := ls.length) R (by omega) hn (by omega) hr).use ?_
    rintro rv h2 ⟨r, hrows, RV, hrl, K2⟩
    have hin := rowsR_in hrows (Int.le_refl _)
    have T2 := T.keeps K2
    simp (disch := omega) only [wk, wt, wl, ↓reduceIte, Nat.reduceEqDiff, Nat.reduceAdd, Nat.zero_add, not_false_eq_true, not_true_eq_false]
    refine W_loop (fun tm h' => Keeps h2 h' ∧ tm 0 = v ∧ tm 2 = .int .i64 cols ∧ tm 3 = .int .i64 tab ∧ tm 4 = .bool wrap ∧ tm 11 = rv ∧ ∃ (k : Nat) (ov : Value), tm 13 = .int .i64 k ∧ tm 12 = ov ∧ k ≤ r.length ∧ OS prog h2.size h' 4 cR ov (viewL ls cols tab wrap (r.take k)))
      (fun tm _ => (r.length - intOf (tm 13)).toNat) ⟨Keeps.refl (Ch.wf K2), (by first | rfl | (simp only [wk, wt, wl, ↓reduceIte, Nat.reduceEqDiff, Nat.reduceAdd, Nat.zero_add, not_false_eq_true, not_true_eq_false]; done) | (simp only [wk, wt, wl, ↓reduceIte, Nat.reduceEqDiff, Nat.reduceAdd, Nat.zero_add, not_false_eq_true, not_true_eq_false]; rfl)), (by first | rfl | (simp only [wk, wt, wl, ↓reduceIte, Nat.reduceEqDiff, Nat.reduceAdd, Nat.zero_add, not_false_eq_true, not_true_eq_false]; done) | (simp only [wk, wt, wl, ↓reduceIte, Nat.reduceEqDiff, Nat.reduceAdd, Nat.zero_add, not_false_eq_true, not_true_eq_false]; rfl)), (by first | rfl | (simp only [wk, wt, wl, ↓reduceIte, Nat.reduceEqDiff, Nat.reduceAdd, Nat.zero_add, not_false_eq_true, not_true_eq_false]; done) | (simp only [wk, wt, wl, ↓reduceIte, Nat.reduceEqDiff, Nat.reduceAdd, Nat.zero_add, not_false_eq_true, not_true_eq_false]; rfl)), (by first | rfl | (simp only [wk, wt, wl, ↓reduceIte, Nat.reduceEqDiff, Nat.reduceAdd, Nat.zero_add, not_false_eq_true, not_true_eq_false]; done) | (simp only [wk, wt, wl, ↓reduceIte, Nat.reduceEqDiff, Nat.reduceAdd, Nat.zero_add, not_false_eq_true, not_true_eq_false]; rfl)), (by first | rfl | (simp only [wk, wt, wl, ↓reduceIte, Nat.reduceEqDiff, Nat.reduceAdd, Nat.zero_add, not_false_eq_true, not_true_eq_false]; done) | (simp only [wk, wt, wl, ↓reduceIte, Nat.reduceEqDiff, Nat.reduceAdd, Nat.zero_add, not_false_eq_true, not_true_eq_false]; rfl)), 0, .slice none 0 0, (by first | rfl | (simp only [wk, wt, wl, ↓reduceIte, Nat.reduceEqDiff, Nat.reduceAdd, Nat.zero_add, not_false_eq_true, not_true_eq_false]; done) | (simp only [wk, wt, wl, ↓reduceIte, Nat.reduceEqDiff, Nat.reduceAdd, Nat.zero_add, not_false_eq_true, not_true_eq_false]; rfl)), (by first | rfl | (simp only [wk, wt, wl, ↓reduceIte, Nat.reduceEqDiff, Nat.reduceAdd, Nat.zero_add, not_false_eq_true, not_true_eq_false]; done) | (simp only [wk, wt, wl, ↓reduceIte, Nat.reduceEqDiff, Nat.reduceAdd, Nat.zero_add, not_false_eq_true, not_true_eq_false]; rfl)), by omega, OS.nil⟩ ?_
    rintro tm h' ⟨K, t0, t2, t3, t4, t11, k, ov, t13, t12, hk, O⟩
    have T' := T2.keeps K
    have RV' : FR h' rv r := RS.keeps RV K
    simp (disch := omega) only [wk, wt, wl, ↓reduceIte, Nat.reduceEqDiff, Nat.reduceAdd, Nat.zero_add, not_false_eq_true, not_true_eq_false, t0, t2, t3, t4, t11, t12, t13, RV'.len underlying23]
    refine condK_dec (fun hd => ?_) (fun hd => ?_)
    · have hk1 : k < r.length := by omega
      obtain ⟨f, hx⟩ : ∃ f, r[k]? = some f := ⟨r[k], by simp [hk1]⟩
      obtain ⟨F0, F1, F2, F3⟩ := FR.flds RV' hx
      have IX := Rd.index RV' underlying23 asz56 (q := .i64) (i := (k : Int)) (by omega) (by omega)
      simp only [Int.toNat_natCast] at IX
      obtain ⟨g1, g2, g3, g4⟩ := hin f (List.mem_of_getElem? hx)
      have hvt := viewL_take (ls := ls) (cols := cols) (tab := tab) (wrap := wrap) hx
      have hvl := viewL_len HT (cols := cols) (tab := tab) (wrap := wrap) (r := r.take k)
      have htk : (r.take k).length ≤ 3000 := by rw [List.length_take]; omega
      cases hcl : f.cl with
      | true =>
        have hro : rowsOf ls cols tab wrap f = [⟨f.fr, 0, f.to + 1 - f.fr, true⟩] := by simp [rowsOf, hcl]
        rw [hcl] at F2
        simp (disch := omega) only [wk, wt, wl, ↓reduceIte, Nat.reduceEqDiff, Nat.reduceAdd, Nat.zero_add, not_false_eq_true, not_true_eq_false, t0, t2, t3, t4, t11, t12, t13, IX, F2]
        refine adraw_order [(0, false), (1, false), (2, false), (3, false), (4, false), (5, false), (6, false), (7, false), (8, false), (9, false), (10, false), (11, false), (12, false), (13, false), (14, false), (15, false), (16, false), (17, false), (18, false), (19, true), (20, true), (21, false)] mixed (by kernel_rfl) (by kernel_rfl) (by kernel_rfl) (by repeat (first | exact PF_retK | refine PF_thenK ?_ | refine PF_blockK ?_)) ?_
        have w1 : IntKind.i64.wrap (f.to - f.fr) = f.to - f.fr := IntWalk.i64_in _ (by omega)
        have w2 : IntKind.i64.wrap (f.to - f.fr + 1) = f.to + 1 - f.fr := by rw [IntWalk.i64_in _ (by omega)]; omega
        simp (disch := omega) only [wk, wt, wl, ↓reduceIte, Nat.reduceEqDiff, Nat.reduceAdd, Nat.zero_add, not_false_eq_true, not_true_eq_false, dK_t, t0, t2, t3, t4, t11, t12, t13, IX, F0, F1, w1, w2, build_r023, bsr]
        obtain ⟨v2, h3, e2, O2, C2, ⟨RD1, RD2⟩, ev2⟩ := O.append1D (P := prog) (Ch.wf K) (Ch.le K) underlying28 elem37 fits37 (by decide) (by decide) ⟨f.fr, 0, f.to + 1 - f.fr, true⟩ rfl (by omega)
        rw [e2]; clear e2
        have K3 := K.step C2 fun b hb => hb.2
        simp (disch := omega) only [wk, wt, wl, ↓reduceIte, Nat.reduceEqDiff, Nat.reduceAdd, Nat.zero_add, not_false_eq_true, not_true_eq_false, dK_t, t0, t2, t3, t4, t11, t13, IntWalk.i64_in, intOf_int]
        refine ⟨RD1, RD2, ?_⟩
        exact ⟨⟨K3, k + 1, v2, by simp, rfl, by omega, by rw [hvt, hro]; exact O2⟩, by omega⟩
      | false =>
        obtain ⟨i, xs, hfi, hil, hxs, hgd, hrn, hxl⟩ := HT.get (f := f) (by omega) (by omega)
        obtain ⟨xv, A1, A2⟩ := T'.at hxs
        have hro : rowsOf ls cols tab wrap f = (rowsG (colsZ cols) wrap (unitsL xs tab) 0 0).map (mkR (i : Int)) := by unfold rowsOf; rw [if_neg (by simp [hcl]), hgd, hfi]
        have hrl2 := rowsOf_len HT (cols := cols) (tab := tab) (wrap := wrap) (f := f)
        rw [hcl] at F2
        rw [hfi] at F0
        simp (disch := omega) only [wk, wt, wl, ↓reduceIte, Nat.reduceEqDiff, Nat.reduceAdd, Nat.zero_add, not_false_eq_true, not_true_eq_false, t0, t2, t3, t4, t11, t12, t13, IX, F2]
        refine adraw_order [(0, false), (1, false), (2, false), (3, false), (4, false), (5, false), (6, false), (7, false), (8, false), (9, false), (10, false), (11, false), (12, false), (13, false), (14, false), (15, false), (16, false), (17, false), (18, true), (19, true), (20, false)] mixed (by kernel_rfl) (by kernel_rfl) (by kernel_rfl) (by repeat (first | exact PF_retK | refine PF_thenK ?_ | refine PF_blockK ?_)) ?_
        simp (disch := omega) only [wk, wt, wl, ↓reduceIte, Nat.reduceEqDiff, Nat.reduceAdd, Nat.zero_add, not_false_eq_true, not_true_eq_false, dK_t, t0, t2, t3, t4, t11, t12, t13, IX, F0, F1, T'.index hil, A1, abuiltin_max, colsZ']
        refine (refLine_ok A2 hrn hxl).use ?_
        rintro lv h3 ⟨RL, K3⟩
        rw [← hro] at RL
        simp (disch := omega) only [wk, wt, wl, ↓reduceIte, Nat.reduceEqDiff, Nat.reduceAdd, Nat.zero_add, not_false_eq_true, not_true_eq_false, dK_t]
        refine ⟨K3.reads (Ch.wf K), ?_⟩
        have O3 := O.keeps K3
        have K23 := K.trans K3
        obtain ⟨v2, h4, e2, O2, RD2, C2, _⟩ := O3.appendRS (P := prog) (Ch.wf K3) (Ch.le K23) underlying28 elem37 fits37 (by decide) RL (by omega)
        rw [e2]; clear e2
        have K4 := K23.step C2 fun b hb => hb.2
        simp (disch := omega) only [wk, wt, wl, ↓reduceIte, Nat.reduceEqDiff, Nat.reduceAdd, Nat.zero_add, not_false_eq_true, not_true_eq_false, dK_t, t0, t2, t3, t4, t11, t13, IntWalk.i64_in, intOf_int]
        refine ⟨RD2, ?_⟩
        exact ⟨⟨K4, k + 1, v2, by simp, rfl, by omega, by rw [hvt]; exact O2⟩, by omega⟩
    · simp (disch := omega) only [wk, wt, wl, ↓reduceIte, Nat.reduceEqDiff, Nat.reduceAdd, Nat.zero_add, not_false_eq_true, not_true_eq_false, t12]
      have hkr : r.take k = r := List.take_of_length_le (by omega)
      rw [hkr] at O
      exact ⟨r, by simpa [rightOr, hr] using hrows, hrl, O.rs, K2.trans K⟩
  | false =>
    simp only [wk, wt, wl, ↓reduceIte, Nat.reduceEqDiff, Nat.reduceAdd, Nat.zero_add, not_false_eq_true, not_true_eq_false, Bool.not_false, T.len]
    refine (refRows_ok (n := ls.length) (l := []) Rd.nil0 (by simp) rfl (by omega) rfl).use ?_
    rintro rv h2 ⟨r, hrows, RV, hrl, K2⟩
    have hin := rowsR_in hrows (Int.le_refl _)
    have T2 := T.keeps K2
    simp (disch := omega) only [wk, wt, wl, ↓reduceIte, Nat.reduceEqDiff, Nat.reduceAdd, Nat.zero_add, not_false_eq_true, not_true_eq_false]
    refine W_loop (fun tm h' => Keeps h2 h' ∧ tm 0 = v ∧ tm 2 = .int .i64 cols ∧ tm 3 = .int .i64 tab ∧ tm 4 = .bool wrap ∧ tm 11 = rv ∧ ∃ (k : Nat) (ov : Value), tm 13 = .int .i64 k ∧ tm 12 = ov ∧ k ≤ r.length ∧ OS prog h2.size h' 4 cR ov (viewL ls cols tab wrap (r.take k)))
      (fun tm _ => (r.length - intOf (tm 13)).toNat) ⟨Keeps.refl (Ch.wf K2), (by first | rfl | (simp only [wk, wt, wl, ↓reduceIte, Nat.reduceEqDiff, Nat.reduceAdd, Nat.zero_add, not_false_eq_true, not_true_eq_false]; done) | (simp only [wk, wt, wl, ↓reduceIte, Nat.reduceEqDiff, Nat.reduceAdd, Nat.zero_add, not_false_eq_true, not_true_eq_false]; rfl)), (by first | rfl | (simp only [wk, wt, wl, ↓reduceIte, Nat.reduceEqDiff, Nat.reduceAdd, Nat.zero_add, not_false_eq_true, not_true_eq_false]; done) | (simp only [wk, wt, wl, ↓reduceIte, Nat.reduceEqDiff, Nat.reduceAdd, Nat.zero_add, not_false_eq_true, not_true_eq_false]; rfl)), (by first | rfl | (simp only [wk, wt, wl, ↓reduceIte, Nat.reduceEqDiff, Nat.reduceAdd, Nat.zero_add, not_false_eq_true, not_true_eq_false]; done) | (simp only [wk, wt, wl, ↓reduceIte, Nat.reduceEqDiff, Nat.reduceAdd, Nat.zero_add, not_false_eq_true, not_true_eq_false]; rfl)), (by first | rfl | (simp only [wk, wt, wl, ↓reduceIte, Nat.reduceEqDiff, Nat.reduceAdd, Nat.zero_add, not_false_eq_true, not_true_eq_false]; done) | (simp only [wk, wt, wl, ↓reduceIte, Nat.reduceEqDiff, Nat.reduceAdd, Nat.zero_add, not_false_eq_true, not_true_eq_false]; rfl)), (by first | rfl | (simp only [wk, wt, wl, ↓reduceIte, Nat.reduceEqDiff, Nat.reduceAdd, Nat.zero_add, not_false_eq_true, not_true_eq_false]; done) | (simp only [wk, wt, wl, ↓reduceIte, Nat.reduceEqDiff, Nat.reduceAdd, Nat.zero_add, not_false_eq_true, not_true_eq_false]; rfl)), 0, .slice none 0 0, (by first | rfl | (simp only [wk, wt, wl, ↓reduceIte, Nat.reduceEqDiff, Nat.reduceAdd, Nat.zero_add, not_false_eq_true, not_true_eq_false]; done) | (simp only [wk, wt, wl, ↓reduceIte, Nat.reduceEqDiff, Nat.reduceAdd, Nat.zero_add, not_false_eq_true, not_true_eq_false]; rfl)), (by first | rfl | (simp only [wk, wt, wl, ↓reduceIte, Nat.reduceEqDiff, Nat.reduceAdd, Nat.zero_add, not_false_eq_true, not_true_eq_false]; done) | (simp only [wk, wt, wl, ↓reduceIte, Nat.reduceEqDiff, Nat.reduceAdd, Nat.zero_add, not_false_eq_true, not_true_eq_false]; rfl)), by omega, OS.nil⟩ ?_
    rintro tm h' ⟨K, t0, t2, t3, t4, t11, k, ov, t13, t12, hk, O⟩
    have T' := T2.keeps K
    have RV' : FR h' rv r := RS.keeps RV K
    simp (disch := omega) only [wk, wt, wl, ↓reduceIte, Nat.reduceEqDiff, Nat.reduceAdd, Nat.zero_add, not_false_eq_true, not_true_eq_false, t0, t2, t3, t4, t11, t12, t13, RV'.len underlying23]
    refine condK_dec (fun hd => ?_) (fun hd => ?_)
    · have hk1 : k < r.length := by omega
      obtain ⟨f, hx⟩ : ∃ f, r[k]? = some f := ⟨r[k], by simp [hk1]⟩
      obtain ⟨F0, F1, F2, F3⟩ := FR.flds RV' hx
      have IX := Rd.index RV' underlying23 asz56 (q := .i64) (i := (k : Int)) (by omega) (by omega)
      simp only [Int.toNat_natCast] at IX
      obtain ⟨g1, g2, g3, g4⟩ := hin f (List.mem_of_getElem? hx)
      have hvt := viewL_take (ls := ls) (cols := cols) (tab := tab) (wrap := wrap) hx
      have hvl := viewL_len HT (cols := cols) (tab := tab) (wrap := wrap) (r := r.take k)
      have htk : (r.take k).length ≤ 3000 := by rw [List.length_take]; omega
      cases hcl : f.cl with
      | true =>
        have hro : rowsOf ls cols tab wrap f = [⟨f.fr, 0, f.to + 1 - f.fr, true⟩] := by simp [rowsOf, hcl]
        rw [hcl] at F2
        simp (disch := omega) only [wk, wt, wl, ↓reduceIte, Nat.reduceEqDiff, Nat.reduceAdd, Nat.zero_add, not_false_eq_true, not_true_eq_false, t0, t2, t3, t4, t11, t12, t13, IX, F2]
        refine adraw_order [(0, false), (1, false), (2, false), (3, false), (4, false), (5, false), (6, false), (7, false), (8, false), (9, false), (10, false), (11, false), (12, false), (13, false), (14, false), (15, false), (16, false), (17, false), (18, false), (19, true), (20, true), (21, false)] mixed (by kernel_rfl) (by kernel_rfl) (by kernel_rfl) (by repeat (first | exact PF_retK | refine PF_thenK ?_ | refine PF_blockK ?_)) ?_
        have w1 : IntKind.i64.wrap (f.to - f.fr) = f.to - f.fr := IntWalk.i64_in _ (by omega)
        have w2 : IntKind.i64.wrap (f.to - f.fr + 1) = f.to + 1 - f.fr := by rw [IntWalk.i64_in _ (by omega)]; omega
        simp (disch := omega) only [wk, wt, wl, ↓reduceIte, Nat.reduceEqDiff, Nat.reduceAdd, Nat.zero_add, not_false_eq_true, not_true_eq_false, dK_t, t0, t2, t3, t4, t11, t12, t13, IX, F0, F1, w1, w2, build_r023, bsr]
        obtain ⟨v2, h3, e2, O2, C2, ⟨RD1, RD2⟩, ev2⟩ := O.append1D (P := prog) (Ch.wf K) (Ch.le K) underlying28 elem37 fits37 (by decide) (by decide) ⟨f.fr, 0, f.to + 1 - f.fr, true⟩ rfl (by omega)
        rw [e2]; clear e2
        have K3 := K.step C2 fun b hb => hb.2
        simp (disch := omega) only [wk, wt, wl, ↓reduceIte, Nat.reduceEqDiff, Nat.reduceAdd, Nat.zero_add, not_false_eq_true, not_true_eq_false, dK_t, t0, t2, t3, t4, t11, t13, IntWalk.i64_in, intOf_int]
        refine ⟨RD1, RD2, ?_⟩
        exact ⟨⟨K3, k + 1, v2, by simp, rfl, by omega, by rw [hvt, hro]; exact O2⟩, by omega⟩
      | false =>
        obtain ⟨i, xs, hfi, hil, hxs, hgd, hrn, hxl⟩ := HT.get (f := f) (by omega) (by omega)
        obtain ⟨xv, A1, A2⟩ := T'.at hxs
        have hro : rowsOf ls cols tab wrap f = (rowsG (colsZ cols) wrap (unitsL xs tab) 0 0).map (mkR (i : Int)) := by unfold rowsOf; rw [if_neg (by simp [hcl]), hgd, hfi]
        have hrl2 := rowsOf_len HT (cols := cols) (tab := tab) (wrap := wrap) (f := f)
        rw [hcl] at F2
        rw [hfi] at F0
        simp (disch := omega) only [wk, wt, wl, ↓reduceIte, Nat.reduceEqDiff, Nat.reduceAdd, Nat.zero_add, not_false_eq_true, not_true_eq_false, t0, t2, t3, t4, t11, t12, t13, IX, F2]
        refine adraw_order [(0, false), (1, false), (2, false), (3, false), (4, false), (5, false), (6, false), (7, false), (8, false), (9, false), (10, false), (11, false), (12, false), (13, false), (14, false), (15, false), (16, false), (17, false), (18, true), (19, true), (20, false)] mixed (by kernel_rfl) (by kernel_rfl) (by kernel_rfl) (by repeat (first | exact PF_retK | refine PF_thenK ?_ | refine PF_blockK ?_)) ?_
        simp (disch := omega) only [wk, wt, wl, ↓reduceIte, Nat.reduceEqDiff, Nat.reduceAdd, Nat.zero_add, not_false_eq_true, not_true_eq_false, dK_t, t0, t2, t3, t4, t11, t12, t13, IX, F0, F1, T'.index hil, A1, abuiltin_max, colsZ']
        refine (refLine_ok A2 hrn hxl).use ?_
        rintro lv h3 ⟨RL, K3⟩
        rw [← hro] at RL
        simp (disch := omega) only [wk, wt, wl, ↓reduceIte, Nat.reduceEqDiff, Nat.reduceAdd, Nat.zero_add, not_false_eq_true, not_true_eq_false, dK_t]
        refine ⟨K3.reads (Ch.wf K), ?_⟩
        have O3 := O.keeps K3
        have K23 := K.trans K3
        obtain ⟨v2, h4, e2, O2, RD2, C2, _⟩ := O3.appendRS (P := prog) (Ch.wf K3) (Ch.le K23) underlying28 elem37 fits37 (by decide) RL (by omega)
        rw [e2]; clear e2
        have K4 := K23.step C2 fun b hb => hb.2
        simp (disch := omega) only [wk, wt, wl, ↓reduceIte, Nat.reduceEqDiff, Nat.reduceAdd, Nat.zero_add, not_false_eq_true, not_true_eq_false, dK_t, t0, t2, t3, t4, t11, t13, IntWalk.i64_in, intOf_int]
        refine ⟨RD2, ?_⟩
        exact ⟨⟨K4, k + 1, v2, by simp, rfl, by omega, by rw [hvt]; exact O2⟩, by omega⟩
    · simp (disch := omega) only [wk, wt, wl, ↓reduceIte, Nat.reduceEqDiff, Nat.reduceAdd, Nat.zero_add, not_false_eq_true, not_true_eq_false, t12]
      have hkr : r.take k = r := List.take_of_length_le (by omega)
      rw [hkr] at O
      exact ⟨r, by simpa [rightOr, hr] using hrows, hrl, O.rs, K2.trans K⟩
end Go.Proofs.YtmjdebeikcogkaaDoor.Am
end
