/- Folds: the rows that are shown: contracts of slices.Clip, of fold.Rows and of the document's Rows, by walks. -/
import Derived.Test.YtgfccaaalkkdlaaOc
set_option linter.unusedSimpArgs false
set_option linter.unusedVariables false
set_option maxHeartbeats 4000000
namespace Go.Proofs.Ytgfccaaalkkdlaa.Am
open Go Go.RowKit Go.Proofs.Try
theorem abuiltin_min {k : IntKind} {ts : Array TypeId} {x y : Int} : abuiltin prog .min ts #[.int k x, .int k y] = some (.int k (if y < x then y else x)) := by simp [abuiltin, amm]
theorem abuiltin_max {k : IntKind} {ts : Array TypeId} {x y : Int} : abuiltin prog .max ts #[.int k x, .int k y] = some (.int k (if x < y then y else x)) := by simp [abuiltin, amm]
theorem build_f2 {x y : Int} : abuild prog 36 #[(0, .int .i64 x), (1, .int .i64 y)] = some (.agg #[.int .i64 x, .int .i64 y, .bool false]) := by simp [abuild, wt, aplaces, Instr.fill, Value.cells]
theorem build_f3 {x y : Int} {b : Bool} : abuild prog 36 #[(0, .int .i64 x), (1, .int .i64 y), (2, .bool b)] = some (.agg #[.int .i64 x, .int .i64 y, .bool b]) := by simp [abuild, wt, aplaces, Instr.fill, Value.cells]
theorem bsf {h : Heap} {x y : Int} {b : Bool} : abuildSlice prog h 22 1 #[(0, .agg #[.int .i64 x, .int .i64 y, .bool b])] = some (.slice (some ⟨h.size, 0, none⟩) 1 2, h.new 36 (cF ⟨x, y, b⟩)) :=
  buildA3 underlying22 asz36 azero36 rfl rfl rfl rfl
theorem clip_ok {v : Value} {l : List F} {h : Heap} (R : FR h v l) : ACalls prog 31 #[v] h (fun y h' => OS prog h.size h 3 cF y l ∧ (∀ a n c, y = .slice (some a) n c → c = n + 1) ∧ h' = h) := by
  refine acalls_of_W func31 rfl (by kernel_rfl) (by kernel_rfl) (by simp [ntmps31]) ?_
  simp only [wk, wt, wl, ↓reduceIte, Nat.reduceEqDiff, Nat.reduceAdd, Nat.zero_add, not_false_eq_true, not_true_eq_false, R.len underlying22]
  have R0 := R
  obtain ⟨hl, h2⟩ := R
  rcases h2 with ⟨h0, rfl | rfl⟩ | ⟨b, o, c, k, rfl, hb, hk, hlv, ha, ho, hc⟩
  · have : l = [] := List.eq_nil_of_length_eq_zero h0
    subst this
    have e : aslice prog h 22 (.slice none 0 0) none (some (.int .i64 ((([] : List F).length : Nat) : Int))) (some (.int .i64 ((([] : List F).length : Nat) : Int))) = some (.slice none 0 0) := by
      simp [aslice, underlying22, asz36, boundOf]
    rw [e]
    simp only [wk, wt, wl, ↓reduceIte, Nat.reduceEqDiff, Nat.reduceAdd, Nat.zero_add, not_false_eq_true, not_true_eq_false]
    exact ⟨OS.nil, (fun a n c e => by cases e), trivial⟩
  · have : l = [] := List.eq_nil_of_length_eq_zero h0
    subst this
    have e : aslice prog h 22 (.slice none 0 1) none (some (.int .i64 ((([] : List F).length : Nat) : Int))) (some (.int .i64 ((([] : List F).length : Nat) : Int))) = some (.slice none 0 0) := by
      simp [aslice, underlying22, asz36, boundOf]
    rw [e]
    simp only [wk, wt, wl, ↓reduceIte, Nat.reduceEqDiff, Nat.reduceAdd, Nat.zero_add, not_false_eq_true, not_true_eq_false]
    exact ⟨OS.nil, (fun a n c e => by cases e), trivial⟩
  · have hm : (l.length : Int) ≤ ((if c = 0 then l.length else max l.length (c - 1) : Nat) : Int) := by split <;> omega
    have e : aslice prog h 22 (.slice (some ⟨b, o, none⟩) l.length c) none (some (.int .i64 (l.length : Int))) (some (.int .i64 (l.length : Int))) = some (.slice (some ⟨b, o, none⟩) l.length (l.length + 1)) := by
      simp [aslice, underlying22, asz36, hk, ha, boundOf, hm]
    rw [e]
    simp only [wk, wt, wl, ↓reduceIte, Nat.reduceEqDiff, Nat.reduceAdd, Nat.zero_add, not_false_eq_true, not_true_eq_false]
    refine ⟨⟨⟨hl, .inr ⟨b, o, l.length + 1, k, rfl, hb, hk, hlv, ha, ho, hc⟩⟩, .inr (.inl ⟨_, rfl⟩)⟩, (fun a n c e => by cases e; rfl), trivial⟩
def nextZ1 (l : List F) (x : Int) : Int := (shownZ l x).2 + 1
inductive RowsR (l : List F) (n : Int) : Int → List F → Prop
  | done {i : Int} (h : ¬ i < n) : RowsR l n i []
  | step {i : Int} {r : List F} (h : i < n) (t : RowsR l n (nextZ1 l i) r) : RowsR l n i (⟨i, (if n < nextZ1 l i then n else nextZ1 l i) - 1, (shutF l i).isSome⟩ :: r)
theorem RowsR.det {l : List F} {n : Int} {i : Int} {r : List F} (H : RowsR l n i r) : ∀ {r' : List F}, RowsR l n i r' → r = r' := by
  induction H with
  | done h =>
    intro r' G
    cases G with
    | done _ => rfl
    | step g _ => exact absurd g h
  | step h t ih =>
    intro r' G
    cases G with
    | done g => exact absurd h g
    | step _ u => rw [ih u]
theorem idxV_ge {o : Option Nat} : decide (0 ≤ idxV o) = o.isSome := by
  cases o with
  | none => rfl
  | some k => simp [idxV]
theorem shownZ_le {l : List F} {x : Int} (hn : nearF l = true) : (shownZ l x).2 ≤ max x 1099511627776 := by
  rcases shownZ_range (l := l) (x := x) with e | ⟨k, f, _, _, hf, _, h1, h2, e⟩
  · rw [e]; simp only; omega
  · rw [e]; have := nearF_at hn hf; simp only; omega
theorem refRows_ok {v : Value} {l : List F} {n : Int} {h : Heap} (R : FR h v l) (hl : l.length ≤ 9223372036854775807) (hn : nearF l = true) (h3 : n ≤ 3000) (hr : rightB l = true) :
    ACalls prog 17 #[v, .int .i64 n] h (fun y h' => ∃ r, RowsR l n 0 r ∧ FR h' y r ∧ r.length ≤ 3000 ∧ Keeps h h') := by
  refine acalls_of_W' func17 rfl (by kernel_rfl) (by kernel_rfl) (by simp [ntmps17]) ?_
  intro H
  simp only [wk, wt, wl, ↓reduceIte, Nat.reduceEqDiff, Nat.reduceAdd, Nat.zero_add, not_false_eq_true, not_true_eq_false]
  refine (refRight_ok R hl).use_pure ?_
  simp only [wk, wt, wl, ↓reduceIte, Nat.reduceEqDiff, Nat.reduceAdd, Nat.zero_add, not_false_eq_true, not_true_eq_false, hr, Bool.not_true]
  refine W_loop (fun tm h' => Keeps h h' ∧ tm 0 = v ∧ tm 1 = .int .i64 n ∧ ∃ (i : Int) (ov : Value) (out : List F), tm 6 = .int .i64 i ∧ tm 5 = ov ∧ 0 ≤ i ∧ i ≤ 2199023255552 ∧ OS prog h.size h' 3 cF ov out ∧ (out.length : Int) ≤ i ∧ out.length ≤ 3000 ∧ ∀ r, RowsR l n i r → RowsR l n 0 (out ++ r)) (fun tm _ => (n - intOf (tm 6)).toNat)
    ⟨Keeps.refl H, (by first | rfl | (simp only [wk, wt, wl, ↓reduceIte, Nat.reduceEqDiff, Nat.reduceAdd, Nat.zero_add, not_false_eq_true, not_true_eq_false]; done) | (simp only [wk, wt, wl, ↓reduceIte, Nat.reduceEqDiff, Nat.reduceAdd, Nat.zero_add, not_false_eq_true, not_true_eq_false]; rfl)), (by first | rfl | (simp only [wk, wt, wl, ↓reduceIte, Nat.reduceEqDiff, Nat.reduceAdd, Nat.zero_add, not_false_eq_true, not_true_eq_false]; done) | (simp only [wk, wt, wl, ↓reduceIte, Nat.reduceEqDiff, Nat.reduceAdd, Nat.zero_add, not_false_eq_true, not_true_eq_false]; rfl)), 0, .slice none 0 0, [], (by first | rfl | (simp only [wk, wt, wl, ↓reduceIte, Nat.reduceEqDiff, Nat.reduceAdd, Nat.zero_add, not_false_eq_true, not_true_eq_false]; done) | (simp only [wk, wt, wl, ↓reduceIte, Nat.reduceEqDiff, Nat.reduceAdd, Nat.zero_add, not_false_eq_true, not_true_eq_false]; rfl)), (by first | rfl | (simp only [wk, wt, wl, ↓reduceIte, Nat.reduceEqDiff, Nat.reduceAdd, Nat.zero_add, not_false_eq_true, not_true_eq_false]; done) | (simp only [wk, wt, wl, ↓reduceIte, Nat.reduceEqDiff, Nat.reduceAdd, Nat.zero_add, not_false_eq_true, not_true_eq_false]; rfl)), by omega, by omega, OS.nil, by simp, by simp, fun r g => g⟩ ?_
  rintro tm h' ⟨K, t0, t1, i, ov, out, t6, t5, hi0, hi1, O, hol, ho3, hrow⟩
  have R' : FR h' v l := R.keeps K
  have hsh := shownZ_in hn (x := i) (by omega)
  have hle := shownZ_le (x := i) hn
  have hnx : nextZ1 l i = (shownZ l i).2 + 1 := rfl
  simp only [wk, wt, wl, ↓reduceIte, Nat.reduceEqDiff, Nat.reduceAdd, Nat.zero_add, not_false_eq_true, not_true_eq_false, t0, t1, t5, t6]
  refine condK_dec (fun hd => ?_) (fun hd => ?_)
  · simp (disch := omega) only [wk, wt, wl, ↓reduceIte, Nat.reduceEqDiff, Nat.reduceAdd, Nat.zero_add, not_false_eq_true, not_true_eq_false, t0, t1, t5, t6]
    refine (refNext_ok R' hl hn (by omega)).use_pure ?_
    rw [← hnx]
    simp (disch := omega) only [wk, wt, wl, ↓reduceIte, Nat.reduceEqDiff, Nat.reduceAdd, Nat.zero_add, not_false_eq_true, not_true_eq_false, t0, t1, t5, t6, abuiltin_min]
    generalize hm : (if n < nextZ1 l i then n else nextZ1 l i) = m
    have hmb : m ≤ 3000 ∧ i < m := by rw [← hm]; split <;> omega
    simp (disch := omega) only [wk, wt, wl, ↓reduceIte, Nat.reduceEqDiff, Nat.reduceAdd, Nat.zero_add, not_false_eq_true, not_true_eq_false, t0, t1, t5, t6, IntWalk.i64_in]
    refine (refShut_ok R' hl).use_pure ?_
    simp (disch := omega) only [wk, wt, wl, ↓reduceIte, Nat.reduceEqDiff, Nat.reduceAdd, Nat.zero_add, not_false_eq_true, not_true_eq_false, t0, t1, t5, t6, idxV_ge, build_f3, bsf]
    obtain ⟨v2, h2, e2, O2, C2, R2, _⟩ := O.append1 (P := prog) (Ch.wf K) (Ch.le K) underlying22 elem36 fits36 (by decide) (by decide) ⟨i, m - 1, (shutF l i).isSome⟩ rfl (by omega)
    rw [e2]; clear e2
    have K2 := K.step C2 fun b hb => hb.2
    simp (disch := omega) only [wk, wt, wl, ↓reduceIte, Nat.reduceEqDiff, Nat.reduceAdd, Nat.zero_add, not_false_eq_true, not_true_eq_false, t0, t1, t6]
    refine (refNext_ok (RS.keeps R K2) hl hn (by omega)).use_pure ?_
    rw [← hnx]
    simp (disch := omega) only [wk, wt, wl, ↓reduceIte, Nat.reduceEqDiff, Nat.reduceAdd, Nat.zero_add, not_false_eq_true, not_true_eq_false, t0, t1, intOf_int]
    refine ⟨⟨K2, nextZ1 l i, v2, out ++ [⟨i, m - 1, (shutF l i).isSome⟩], rfl, rfl, by omega, by omega, O2, by simp only [List.length_append, List.length_singleton]; omega, by simp only [List.length_append, List.length_singleton]; omega, fun r g => ?_⟩, by omega⟩
    rw [List.append_assoc]
    have := RowsR.step hd g
    rw [hm] at this
    exact hrow _ this
  · simp only [wk, wt, wl, ↓reduceIte, Nat.reduceEqDiff, Nat.reduceAdd, Nat.zero_add, not_false_eq_true, not_true_eq_false, t5]
    exact ⟨out, by simpa using hrow [] (.done hd), O.rs, ho3, K⟩
end Go.Proofs.Ytgfccaaalkkdlaa.Am
