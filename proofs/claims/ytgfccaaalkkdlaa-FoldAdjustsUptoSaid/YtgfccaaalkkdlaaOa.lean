/- Folds: which are right, which a line is in: contracts of fold.Right, find, at, shown, of the document's Right, in, shut and of the law's near, by walks. -/
import Derived.Test.YtgfccaaalkkdlaaAmRecs
import Derived.Test.YtgfccaaalkkdlaaAmF
set_option linter.unusedSimpArgs false
set_option linter.unusedVariables false
set_option maxHeartbeats 2000000
namespace Go.Proofs.Ytgfccaaalkkdlaa.Am
open Go Go.RowKit Go.Proofs.Try
def intOf : Value → Int
  | .int _ x => x
  | _ => 0
theorem intOf_int {k : IntKind} {x : Int} : intOf (.int k x) = x := rfl
structure F where
  fr : Int
  to : Int
  cl : Bool
def cF (x : F) : List Value := [.int .i64 x.fr, .int .i64 x.to, .bool x.cl]
theorem cF_len : ∀ x, (cF x).length = 3 := fun _ => rfl
abbrev FR (h : Heap) (v : Value) (l : List F) : Prop := RS prog h 3 cF v l
def rightGo : Int → List F → Bool
  | _, [] => true
  | e, f :: l => if f.fr ≤ e ∨ f.to ≤ f.fr then false else rightGo f.to l
def rightB (l : List F) : Bool := rightGo (-1) l && decide (l.length ≤ 64)
theorem drop_at {α : Type} {us : List α} {j : Nat} {u : α} (h : us[j]? = some u) : us.drop j = u :: us.drop (j + 1) := by
  obtain ⟨hj, e⟩ := List.getElem?_eq_some_iff.1 h
  rw [List.drop_eq_getElem_cons hj, e]
theorem FR.flds {h : Heap} {v : Value} {l : List F} (R : FR h v l) {i : Nat} {x : F} (hx : l[i]? = some x) :
    aload prog h 3 ⟨(eltA v 3 i).block, (eltA v 3 i).off + 0, none⟩ = some (.int .i64 x.fr) ∧ aload prog h 3 ⟨(eltA v 3 i).block, (eltA v 3 i).off + 1, none⟩ = some (.int .i64 x.to) ∧ aload prog h 4 ⟨(eltA v 3 i).block, (eltA v 3 i).off + 2, none⟩ = some (.bool x.cl) ∧
    aload prog h 36 (eltA v 3 i) = some (.agg #[.int .i64 x.fr, .int .i64 x.to, .bool x.cl]) :=
  ⟨R.fld cF_len underlying3 rfl hx (by decide), R.fld cF_len underlying3 rfl hx (by decide), R.fld cF_len underlying4 rfl hx (by decide), R.agg cF_len underlying36 rfl asz36 hx⟩
theorem refRight_ok {v : Value} {l : List F} {h : Heap} (R : FR h v l) (hl : l.length ≤ 9223372036854775807) : ACalls prog 22 #[v] h (fun x h' => x = .bool (rightB l) ∧ h' = h) := by
  refine acalls_of_W func22 rfl (by kernel_rfl) (by kernel_rfl) (by simp [ntmps22]) ?_
  simp only [wk, wt, wl, ↓reduceIte, Nat.reduceEqDiff, Nat.reduceAdd, Nat.zero_add, not_false_eq_true, not_true_eq_false]
  refine W_loop (fun tm h' => h' = h ∧ tm 0 = v ∧ ∃ (i : Nat) (e : Int), tm 4 = .int .i64 i ∧ tm 3 = .int .i64 e ∧ i ≤ l.length ∧ rightGo (-1) l = rightGo e (l.drop i)) (fun tm _ => (l.length - intOf (tm 4)).toNat) ⟨rfl, (by first | rfl | (simp only [wk, wt, wl, ↓reduceIte, Nat.reduceEqDiff, Nat.reduceAdd, Nat.zero_add, not_false_eq_true, not_true_eq_false]; done) | (simp only [wk, wt, wl, ↓reduceIte, Nat.reduceEqDiff, Nat.reduceAdd, Nat.zero_add, not_false_eq_true, not_true_eq_false]; rfl)), 0, -1, (by first | rfl | (simp only [wk, wt, wl, ↓reduceIte, Nat.reduceEqDiff, Nat.reduceAdd, Nat.zero_add, not_false_eq_true, not_true_eq_false]; done) | (simp only [wk, wt, wl, ↓reduceIte, Nat.reduceEqDiff, Nat.reduceAdd, Nat.zero_add, not_false_eq_true, not_true_eq_false]; rfl)), (by first | rfl | (simp only [wk, wt, wl, ↓reduceIte, Nat.reduceEqDiff, Nat.reduceAdd, Nat.zero_add, not_false_eq_true, not_true_eq_false]; done) | (simp only [wk, wt, wl, ↓reduceIte, Nat.reduceEqDiff, Nat.reduceAdd, Nat.zero_add, not_false_eq_true, not_true_eq_false]; rfl)), by omega, rfl⟩ ?_
  rintro tm h' ⟨rfl, t0, i, e, t4, t3, hi, hg⟩
  simp only [wk, wt, wl, ↓reduceIte, Nat.reduceEqDiff, Nat.reduceAdd, Nat.zero_add, not_false_eq_true, not_true_eq_false, t0, t3, t4, R.len underlying22]
  refine condK_dec (fun hd => ?_) (fun hd => ?_)
  · have hi1 : i < l.length := by omega
    obtain ⟨f, hx⟩ : ∃ f, l[i]? = some f := ⟨l[i], by simp [hi1]⟩
    obtain ⟨F0, F1, F2, F3⟩ := R.flds hx
    have IX := Rd.index R underlying22 asz36 (q := .i64) (i := (i : Int)) (by omega) (by omega)
    simp only [Int.toNat_natCast] at IX
    rw [drop_at hx] at hg
    simp only [rightGo] at hg
    simp only [wk, wt, wl, ↓reduceIte, Nat.reduceEqDiff, Nat.reduceAdd, Nat.zero_add, not_false_eq_true, not_true_eq_false]
    refine adraw_order [(0, false), (1, false), (2, false), (3, false), (4, false), (5, false), (6, false), (7, false), (8, false), (9, false), (10, false), (11, false), (12, false), (13, false), (14, false), (15, false), (16, false), (17, false), (18, false), (19, false)] mixed (by kernel_rfl) (by kernel_rfl) (by kernel_rfl) (by repeat (first | exact PF_retK | refine PF_thenK ?_ | refine PF_blockK ?_)) ?_
    by_cases hb : f.fr ≤ e ∨ f.to ≤ f.fr
    · rw [if_pos hb] at hg
      have fin : rightB l = false := by simp [rightB, hg]
      by_cases h1 : f.fr ≤ e
      · have d1 : decide (f.fr ≤ e) = true := decide_eq_true h1
        simp (disch := omega) only [wk, wt, wl, ↓reduceIte, Nat.reduceEqDiff, Nat.reduceAdd, Nat.zero_add, not_false_eq_true, not_true_eq_false, t0, t3, t4, IX, F0, F1, d1]
        rw [fin]; exact ⟨rfl, trivial⟩
      · have d1 : decide (f.fr ≤ e) = false := decide_eq_false h1
        have d2 : decide (f.to ≤ f.fr) = true := decide_eq_true (by omega)
        simp (disch := omega) only [wk, wt, wl, ↓reduceIte, Nat.reduceEqDiff, Nat.reduceAdd, Nat.zero_add, not_false_eq_true, not_true_eq_false, t0, t3, t4, IX, F0, F1, d1, d2]
        rw [fin]; exact ⟨rfl, trivial⟩
    · rw [if_neg hb] at hg
      have d1 : decide (f.fr ≤ e) = false := decide_eq_false (by omega)
      have d2 : decide (f.to ≤ f.fr) = false := decide_eq_false (by omega)
      simp (disch := omega) only [wk, wt, wl, ↓reduceIte, Nat.reduceEqDiff, Nat.reduceAdd, Nat.zero_add, not_false_eq_true, not_true_eq_false, t0, t3, t4, IX, F0, F1, d1, d2, IntWalk.i64_in, intOf_int]
      exact ⟨⟨i + 1, f.to, by simp, rfl, by omega, hg⟩, by omega⟩
  · rw [List.drop_of_length_le (by omega)] at hg
    simp only [wk, wt, wl, ↓reduceIte, Nat.reduceEqDiff, Nat.reduceAdd, Nat.zero_add, not_false_eq_true, not_true_eq_false, t0, R.len underlying22]
    simp only [rightB, hg, rightGo, Bool.true_and]
    refine ⟨?_, trivial⟩
    congr 1
    exact decide_eq_decide.2 (by omega)
theorem right_ok {v : Value} {l : List F} {h : Heap} (R : FR h v l) (hl : l.length ≤ 9223372036854775807) : ACalls prog 21 #[v] h (fun x h' => x = .bool (rightB l) ∧ Keeps h h') := by
  refine acalls_of_W' func21 rfl (by kernel_rfl) (by kernel_rfl) (by simp [ntmps21]) ?_
  intro H
  simp only [wk, wt, wl, ↓reduceIte, Nat.reduceEqDiff, Nat.reduceAdd, Nat.zero_add, not_false_eq_true, not_true_eq_false, R.len underlying22]
  refine W_loop (fun tm h' => Keeps h h' ∧ tm 0 = v ∧ tm 6 = v ∧ tm 7 = .int .i64 l.length ∧ ∃ (i : Nat) (e : Int), tm 8 = .int .i64 i ∧ tm 3 = .int .i64 e ∧ i ≤ l.length ∧ rightGo (-1) l = rightGo e (l.drop i)) (fun tm _ => (l.length - intOf (tm 8)).toNat) ⟨Keeps.refl H, (by first | rfl | (simp only [wk, wt, wl, ↓reduceIte, Nat.reduceEqDiff, Nat.reduceAdd, Nat.zero_add, not_false_eq_true, not_true_eq_false]; done) | (simp only [wk, wt, wl, ↓reduceIte, Nat.reduceEqDiff, Nat.reduceAdd, Nat.zero_add, not_false_eq_true, not_true_eq_false]; rfl)), (by first | rfl | (simp only [wk, wt, wl, ↓reduceIte, Nat.reduceEqDiff, Nat.reduceAdd, Nat.zero_add, not_false_eq_true, not_true_eq_false]; done) | (simp only [wk, wt, wl, ↓reduceIte, Nat.reduceEqDiff, Nat.reduceAdd, Nat.zero_add, not_false_eq_true, not_true_eq_false]; rfl)), (by first | rfl | (simp only [wk, wt, wl, ↓reduceIte, Nat.reduceEqDiff, Nat.reduceAdd, Nat.zero_add, not_false_eq_true, not_true_eq_false]; done) | (simp only [wk, wt, wl, ↓reduceIte, Nat.reduceEqDiff, Nat.reduceAdd, Nat.zero_add, not_false_eq_true, not_true_eq_false]; rfl)), 0, -1, (by first | rfl | (simp only [wk, wt, wl, ↓reduceIte, Nat.reduceEqDiff, Nat.reduceAdd, Nat.zero_add, not_false_eq_true, not_true_eq_false]; done) | (simp only [wk, wt, wl, ↓reduceIte, Nat.reduceEqDiff, Nat.reduceAdd, Nat.zero_add, not_false_eq_true, not_true_eq_false]; rfl)), (by first | rfl | (simp only [wk, wt, wl, ↓reduceIte, Nat.reduceEqDiff, Nat.reduceAdd, Nat.zero_add, not_false_eq_true, not_true_eq_false]; done) | (simp only [wk, wt, wl, ↓reduceIte, Nat.reduceEqDiff, Nat.reduceAdd, Nat.zero_add, not_false_eq_true, not_true_eq_false]; rfl)), by omega, rfl⟩ ?_
  rintro tm h' ⟨K, t0, t6, t7, i, e, t8, t3, hi, hg⟩
  have R' : FR h' v l := R.keeps K
  simp only [wk, wt, wl, ↓reduceIte, Nat.reduceEqDiff, Nat.reduceAdd, Nat.zero_add, not_false_eq_true, not_true_eq_false, t0, t3, t6, t7, t8]
  refine condK_dec (fun hd => ?_) (fun hd => ?_)
  · have hi1 : i < l.length := by omega
    obtain ⟨f, hx⟩ : ∃ f, l[i]? = some f := ⟨l[i], by simp [hi1]⟩
    obtain ⟨F0, F1, F2, F3⟩ := R'.flds hx
    have IX := Rd.index R' underlying22 asz36 (q := .i64) (i := (i : Int)) (by omega) (by omega)
    simp only [Int.toNat_natCast] at IX
    rw [drop_at hx] at hg
    simp only [rightGo] at hg
    simp (disch := omega) only [wk, wt, wl, ↓reduceIte, Nat.reduceEqDiff, Nat.reduceAdd, Nat.zero_add, not_false_eq_true, not_true_eq_false, t0, t3, t6, t7, t8, IX, F3]
    have K3 := Keeps.new (Ch.wf K) 36 [Value.int IntKind.i64 0, Value.int IntKind.i64 0, Value.bool false]
    have V3 := Var.new (e := 36) (Ch.wf K) (cs := [Value.int IntKind.i64 0, Value.int IntKind.i64 0, Value.bool false])
    obtain ⟨h4, e4, V4, C4, z4⟩ := V3.store (P := prog) (t := 36) (v := .agg #[.int .i64 f.fr, .int .i64 f.to, .bool f.cl]) (i := 0) (Ch.wf K3) asz36 (by simp [Value.cells]) (by simp [Value.cells, one])
    rw [e4]; clear e4
    simp only [Value.cells, over_all (xs := [Value.int IntKind.i64 0, Value.int IntKind.i64 0, Value.bool false]) (vs := [.int .i64 f.fr, .int .i64 f.to, .bool f.cl]) rfl] at V4
    have K14 := K3.step C4 (fun b hb => by omega)
    have K4 := K.trans K14
    have W0 := V4.load1 (P := prog) (t := 3) underlying3 rfl (i := 0)
    have W1 := V4.load1 (P := prog) (t := 3) underlying3 rfl (i := 1)
    have W2 := V4.load1 (P := prog) (t := 4) underlying4 rfl (i := 2)
    simp only [List.getElem?_cons_succ, List.getElem?_cons_zero] at W0 W1 W2
    by_cases hb : f.fr ≤ e ∨ f.to ≤ f.fr
    · rw [if_pos hb] at hg
      have fin : rightB l = false := by simp [rightB, hg]
      by_cases h1 : f.fr ≤ e
      · have d1 : decide (f.fr ≤ e) = true := decide_eq_true h1
        simp (disch := omega) only [wk, wt, wl, ↓reduceIte, Nat.reduceEqDiff, Nat.reduceAdd, Nat.zero_add, not_false_eq_true, not_true_eq_false, t0, t3, t6, t7, t8, W0, W1, d1]
        rw [fin]; exact ⟨rfl, K4⟩
      · have d1 : decide (f.fr ≤ e) = false := decide_eq_false h1
        have d2 : decide (f.to ≤ f.fr) = true := decide_eq_true (by omega)
        simp (disch := omega) only [wk, wt, wl, ↓reduceIte, Nat.reduceEqDiff, Nat.reduceAdd, Nat.zero_add, not_false_eq_true, not_true_eq_false, t0, t3, t6, t7, t8, W0, W1, d1, d2]
        rw [fin]; exact ⟨rfl, K4⟩
    · rw [if_neg hb] at hg
      have d1 : decide (f.fr ≤ e) = false := decide_eq_false (by omega)
      have d2 : decide (f.to ≤ f.fr) = false := decide_eq_false (by omega)
      simp (disch := omega) only [wk, wt, wl, ↓reduceIte, Nat.reduceEqDiff, Nat.reduceAdd, Nat.zero_add, not_false_eq_true, not_true_eq_false, t0, t3, t6, t7, t8, W0, W1, d1, d2, IntWalk.i64_in, intOf_int]
      exact ⟨⟨K4, i + 1, f.to, by simp, rfl, by omega, hg⟩, by omega⟩
  · rw [List.drop_of_length_le (by omega)] at hg
    simp only [wk, wt, wl, ↓reduceIte, Nat.reduceEqDiff, Nat.reduceAdd, Nat.zero_add, not_false_eq_true, not_true_eq_false, t0, R'.len underlying22]
    simp only [rightB, hg, rightGo, Bool.true_and]
    refine ⟨?_, K⟩
    congr 1
    exact decide_eq_decide.2 (by omega)
def nearF (l : List F) : Bool := l.all fun f => decide (f.to ≤ 1099511627776) && decide (-1099511627776 ≤ f.fr)
def nearB (l : List F) (x : Int) : Bool := nearF l && (decide (x ≤ 1099511627776) && decide (-1099511627776 ≤ x))
theorem nearF_at {l : List F} (h : nearF l = true) {i : Nat} {f : F} (hx : l[i]? = some f) : f.to ≤ 1099511627776 ∧ -1099511627776 ≤ f.fr := by
  have := (List.all_eq_true.1 h) f (List.mem_of_getElem? hx)
  simpa using this
theorem near_ok {v : Value} {l : List F} {x : Int} {h : Heap} (R : FR h v l) (hl : l.length ≤ 9223372036854775807) : ACalls prog 8 #[v, .int .i64 x] h (fun y h' => y = .bool (nearB l x) ∧ h' = h) := by
  refine acalls_of_W func8 rfl (by kernel_rfl) (by kernel_rfl) (by simp [ntmps8]) ?_
  simp only [wk, wt, wl, ↓reduceIte, Nat.reduceEqDiff, Nat.reduceAdd, Nat.zero_add, not_false_eq_true, not_true_eq_false]
  refine W_loop (fun tm h' => h' = h ∧ tm 0 = v ∧ tm 1 = .int .i64 x ∧ ∃ (i : Nat), tm 5 = .int .i64 i ∧ i ≤ l.length ∧ nearF l = nearF (l.drop i)) (fun tm _ => (l.length - intOf (tm 5)).toNat) ⟨rfl, (by first | rfl | (simp only [wk, wt, wl, ↓reduceIte, Nat.reduceEqDiff, Nat.reduceAdd, Nat.zero_add, not_false_eq_true, not_true_eq_false]; done) | (simp only [wk, wt, wl, ↓reduceIte, Nat.reduceEqDiff, Nat.reduceAdd, Nat.zero_add, not_false_eq_true, not_true_eq_false]; rfl)), (by first | rfl | (simp only [wk, wt, wl, ↓reduceIte, Nat.reduceEqDiff, Nat.reduceAdd, Nat.zero_add, not_false_eq_true, not_true_eq_false]; done) | (simp only [wk, wt, wl, ↓reduceIte, Nat.reduceEqDiff, Nat.reduceAdd, Nat.zero_add, not_false_eq_true, not_true_eq_false]; rfl)), 0, (by first | rfl | (simp only [wk, wt, wl, ↓reduceIte, Nat.reduceEqDiff, Nat.reduceAdd, Nat.zero_add, not_false_eq_true, not_true_eq_false]; done) | (simp only [wk, wt, wl, ↓reduceIte, Nat.reduceEqDiff, Nat.reduceAdd, Nat.zero_add, not_false_eq_true, not_true_eq_false]; rfl)), by omega, rfl⟩ ?_
  rintro tm h' ⟨rfl, t0, t1, i, t5, hi, hg⟩
  simp only [wk, wt, wl, ↓reduceIte, Nat.reduceEqDiff, Nat.reduceAdd, Nat.zero_add, not_false_eq_true, not_true_eq_false, t0, t1, t5, R.len underlying22]
  refine condK_dec (fun hd => ?_) (fun hd => ?_)
  · have hi1 : i < l.length := by omega
    obtain ⟨f, hx⟩ : ∃ f, l[i]? = some f := ⟨l[i], by simp [hi1]⟩
    obtain ⟨F0, F1, F2, F3⟩ := R.flds hx
    have IX := Rd.index R underlying22 asz36 (q := .i64) (i := (i : Int)) (by omega) (by omega)
    simp only [Int.toNat_natCast] at IX
    rw [drop_at hx] at hg
    simp only [nearF, List.all_cons] at hg
    by_cases h1 : 1099511627776 < f.to
    · have d1 : decide (1099511627776 < f.to) = true := decide_eq_true h1
      have fin : nearB l x = false := by simp only [nearB, nearF, hg]; rw [decide_eq_false (by omega)]; simp
      simp (disch := omega) only [wk, wt, wl, ↓reduceIte, Nat.reduceEqDiff, Nat.reduceAdd, Nat.zero_add, not_false_eq_true, not_true_eq_false, t0, t1, t5, IX, F0, F1, d1]
      rw [fin]; exact ⟨rfl, trivial⟩
    · have d1 : decide (1099511627776 < f.to) = false := decide_eq_false h1
      by_cases h2 : f.fr < -1099511627776
      · have d2 : decide (f.fr < -1099511627776) = true := decide_eq_true h2
        have fin : nearB l x = false := by simp only [nearB, nearF, hg]; rw [decide_eq_false (p := -1099511627776 ≤ f.fr) (by omega)]; simp
        simp (disch := omega) only [wk, wt, wl, ↓reduceIte, Nat.reduceEqDiff, Nat.reduceAdd, Nat.zero_add, not_false_eq_true, not_true_eq_false, t0, t1, t5, IX, F0, F1, d1, d2]
        rw [fin]; exact ⟨rfl, trivial⟩
      · have d2 : decide (f.fr < -1099511627776) = false := decide_eq_false h2
        rw [decide_eq_true (p := f.to ≤ 1099511627776) (by omega), decide_eq_true (p := -1099511627776 ≤ f.fr) (by omega)] at hg
        simp (disch := omega) only [wk, wt, wl, ↓reduceIte, Nat.reduceEqDiff, Nat.reduceAdd, Nat.zero_add, not_false_eq_true, not_true_eq_false, t0, t1, t5, IX, F0, F1, d1, d2, IntWalk.i64_in, intOf_int]
        exact ⟨⟨i + 1, by simp, by omega, by simpa [nearF] using hg⟩, by omega⟩
  · rw [List.drop_of_length_le (by omega)] at hg
    have hg' : nearF l = true := hg
    by_cases h1 : x ≤ 1099511627776
    · have d1 : decide (x ≤ 1099511627776) = true := decide_eq_true h1
      simp only [wk, wt, wl, ↓reduceIte, Nat.reduceEqDiff, Nat.reduceAdd, Nat.zero_add, not_false_eq_true, not_true_eq_false, t0, t1, d1]
      simp [nearB, hg', h1]
    · have d1 : decide (x ≤ 1099511627776) = false := decide_eq_false h1
      simp only [wk, wt, wl, ↓reduceIte, Nat.reduceEqDiff, Nat.reduceAdd, Nat.zero_add, not_false_eq_true, not_true_eq_false, t0, t1, d1]
      simp [nearB, hg', h1]
end Go.Proofs.Ytgfccaaalkkdlaa.Am
