/- Folds: the rows that are shown: the contract of fold.Rows, by a walk. -/
import Derived.Test.YtgfccaaalkkdlaaOd
set_option linter.unusedSimpArgs false
set_option linter.unusedVariables false
set_option maxHeartbeats 4000000
set_option maxRecDepth 20000
namespace Go.Proofs.Ytgfccaaalkkdlaa.Am
open Go Go.RowKit Go.Proofs.Try
theorem shown_gap {l : List F} {x : Int} (h : ∀ (j : Nat) f, l[j]? = some f → f.cl = true → ¬ (f.fr ≤ x ∧ x ≤ f.to)) : shutF l x = none ∧ nextZ1 l x = x + 1 := by
  have hs : shutF l x = none := by
    cases hs : shutF l x with
    | none => rfl
    | some k =>
      obtain ⟨f, hx, h1, h2, h3, _⟩ := shutF_some hs
      exact absurd ⟨h2, h3⟩ (h k f hx h1)
  refine ⟨hs, ?_⟩
  unfold nextZ1 shownZ
  rw [hs]; split <;> rfl
theorem shown_fold {l : List F} (hr : rightB l = true) {k : Nat} {f : F} (hx : l[k]? = some f) (hc : f.cl = true) : shutF l f.fr = some k ∧ nextZ1 l f.fr = f.to + 1 := by
  obtain ⟨r1, r2, _⟩ := rightB_at hr
  have hk := r1 k f hx
  have hin : inF l f.fr = some k := by
    rw [inF_find hr (x := f.fr) (i := k) (fun j g hj hg => r2 j k g f hj hg hx) (fun g hg => by rw [hx] at hg; cases hg; omega), hx]
    simp
  have hs : shutF l f.fr = some k := by simp [shutF, hin, hx, hc]
  refine ⟨hs, ?_⟩
  unfold nextZ1 shownZ
  simp [hr, hs, hx]
theorem rows_ok {v : Value} {l : List F} {n : Int} {h : Heap} (R : FR h v l) (hl : l.length ≤ 9223372036854775807) (hn : nearF l = true) (h3 : n ≤ 3000) (hr : rightB l = true) :
    ACalls prog 16 #[v, .int .i64 n] h (fun y h' => ∃ r, RowsR l n 0 r ∧ FR h' y r ∧ r.length ≤ 3000 ∧ Keeps h h') := by
  obtain ⟨r1, r2, r3⟩ := rightB_at hr
  refine acalls_of_W' func16 rfl (by kernel_rfl) (by kernel_rfl) (by simp [ntmps16]) ?_
  intro H
  simp only [wk, wt, wl, ↓reduceIte, Nat.reduceEqDiff, Nat.reduceAdd, Nat.zero_add, not_false_eq_true, not_true_eq_false]
  refine (right_ok R hl).use ?_
  rintro _ h2 ⟨rfl, K2⟩
  simp only [wk, wt, wl, ↓reduceIte, Nat.reduceEqDiff, Nat.reduceAdd, Nat.zero_add, not_false_eq_true, not_true_eq_false, hr, Bool.not_true]
  refine (clip_ok (RS.keeps R K2)).use ?_
  rintro cv _ ⟨OC, _, rfl⟩
  obtain ⟨mx, hmx⟩ : ∃ mx, mx = (if n < 0 then 0 else n) := ⟨_, rfl⟩
  have hmx1 : 0 ≤ mx ∧ n ≤ mx ∧ mx ≤ 3000 := by rw [hmx]; split <;> omega
  simp only [wk, wt, wl, ↓reduceIte, Nat.reduceEqDiff, Nat.reduceAdd, Nat.zero_add, not_false_eq_true, not_true_eq_false, abuiltin_max, ← hmx, build_f2, bsf]
  obtain ⟨lv, h5, e5, O5, C5, R5, _⟩ := OC.append1 (P := prog) (Ch.wf K2) (Nat.le_refl _) underlying22 elem36 fits36 (by decide) (by decide) ⟨mx, mx, false⟩ rfl (by omega)
  rw [e5]; clear e5
  have K5 := K2.step C5 fun b hb => by have := hb.2; have := Ch.le K2; omega
  have RL := O5.rs
  clear OC C5 R5 O5
  obtain ⟨L, hL⟩ : ∃ L, L = l ++ [⟨mx, mx, false⟩] := ⟨_, rfl⟩
  rw [← hL] at RL
  have hLl : L.length = l.length + 1 := by rw [hL]; simp
  have hget : ∀ (k : Nat) f, L[k]? = some f → (k < l.length ∧ l[k]? = some f) ∨ (k = l.length ∧ f = ⟨mx, mx, false⟩) := fun k f hf => by
    rw [hL] at hf
    rcases Nat.lt_or_ge k l.length with hk | hk
    · rw [List.getElem?_append_left hk] at hf; exact .inl ⟨hk, hf⟩
    · rw [List.getElem?_append_right hk] at hf
      have : k - l.length = 0 := by
        have := (List.getElem?_eq_some_iff.1 hf).1
        simp at this; omega
      rw [this] at hf
      simp at hf
      exact .inr ⟨by omega, hf.symm⟩
  simp only [wk, wt, wl, ↓reduceIte, Nat.reduceEqDiff, Nat.reduceAdd, Nat.zero_add, not_false_eq_true, not_true_eq_false, Rd.len RL underlying22]
  refine W_loop (fun tm h' => Keeps h h' ∧ tm 0 = v ∧ tm 1 = .int .i64 n ∧ tm 20 = lv ∧ tm 21 = .int .i64 L.length ∧ FR h' lv L ∧ ∃ (k : Nat) (i : Int) (ov : Value) (out : List F), tm 22 = .int .i64 k ∧ tm 6 = .int .i64 i ∧ tm 5 = ov ∧ k ≤ l.length ∧ 0 ≤ i ∧ i ≤ 1099511627777 ∧
      OS prog h.size h' 3 cF ov out ∧ (out.length : Int) ≤ i ∧ out.length ≤ 3000 ∧ (∀ (j : Nat) f, j < k → l[j]? = some f → f.cl = true → f.to < i) ∧ (∀ (j : Nat) f, k ≤ j → l[j]? = some f → i ≤ f.fr) ∧ ∀ r, RowsR l n i r → RowsR l n 0 (out ++ r)) (fun tm _ => (L.length - intOf (tm 22)).toNat)
    ⟨K5, (by first | rfl | (simp only [wk, wt, wl, ↓reduceIte, Nat.reduceEqDiff, Nat.reduceAdd, Nat.zero_add, not_false_eq_true, not_true_eq_false]; done) | (simp only [wk, wt, wl, ↓reduceIte, Nat.reduceEqDiff, Nat.reduceAdd, Nat.zero_add, not_false_eq_true, not_true_eq_false]; rfl)), (by first | rfl | (simp only [wk, wt, wl, ↓reduceIte, Nat.reduceEqDiff, Nat.reduceAdd, Nat.zero_add, not_false_eq_true, not_true_eq_false]; done) | (simp only [wk, wt, wl, ↓reduceIte, Nat.reduceEqDiff, Nat.reduceAdd, Nat.zero_add, not_false_eq_true, not_true_eq_false]; rfl)), (by first | rfl | (simp only [wk, wt, wl, ↓reduceIte, Nat.reduceEqDiff, Nat.reduceAdd, Nat.zero_add, not_false_eq_true, not_true_eq_false]; done) | (simp only [wk, wt, wl, ↓reduceIte, Nat.reduceEqDiff, Nat.reduceAdd, Nat.zero_add, not_false_eq_true, not_true_eq_false]; rfl)), (by first | rfl | (simp only [wk, wt, wl, ↓reduceIte, Nat.reduceEqDiff, Nat.reduceAdd, Nat.zero_add, not_false_eq_true, not_true_eq_false]; done) | (simp only [wk, wt, wl, ↓reduceIte, Nat.reduceEqDiff, Nat.reduceAdd, Nat.zero_add, not_false_eq_true, not_true_eq_false]; rfl)), RL, 0, 0, .slice none 0 0, [], (by first | rfl | (simp only [wk, wt, wl, ↓reduceIte, Nat.reduceEqDiff, Nat.reduceAdd, Nat.zero_add, not_false_eq_true, not_true_eq_false]; done) | (simp only [wk, wt, wl, ↓reduceIte, Nat.reduceEqDiff, Nat.reduceAdd, Nat.zero_add, not_false_eq_true, not_true_eq_false]; rfl)), (by first | rfl | (simp only [wk, wt, wl, ↓reduceIte, Nat.reduceEqDiff, Nat.reduceAdd, Nat.zero_add, not_false_eq_true, not_true_eq_false]; done) | (simp only [wk, wt, wl, ↓reduceIte, Nat.reduceEqDiff, Nat.reduceAdd, Nat.zero_add, not_false_eq_true, not_true_eq_false]; rfl)), (by first | rfl | (simp only [wk, wt, wl, ↓reduceIte, Nat.reduceEqDiff, Nat.reduceAdd, Nat.zero_add, not_false_eq_true, not_true_eq_false]; done) | (simp only [wk, wt, wl, ↓reduceIte, Nat.reduceEqDiff, Nat.reduceAdd, Nat.zero_add, not_false_eq_true, not_true_eq_false]; rfl)), by omega, by omega, by omega, OS.nil, by simp, by simp, fun j f hj => by omega, fun j f _ hf => (r1 j f hf).1, fun r g => g⟩ ?_
  clear K5 RL
  rintro tm h' ⟨K, t0, t1, t20, t21, RL, k, i, ov, out, t22, t6, t5, hk, hi0, hi1, O, hol, ho3, inv1, inv2, hrow⟩
  have dk : decide ((k : Int) < L.length) = true := decide_eq_true (by omega)
  have hkL : k < L.length := by omega
  obtain ⟨f, hx⟩ : ∃ f, L[k]? = some f := ⟨L[k], by simp [hkL]⟩
  obtain ⟨F0, F1, F2, F3⟩ := RL.flds hx
  have IX := Rd.index RL underlying22 asz36 (q := .i64) (i := (k : Int)) (by omega) (by omega)
  simp only [Int.toNat_natCast] at IX
  simp (disch := omega) only [wk, wt, wl, ↓reduceIte, Nat.reduceEqDiff, Nat.reduceAdd, Nat.zero_add, not_false_eq_true, not_true_eq_false, t0, t1, t20, t21, t22, t5, t6, dk, IX, F3]
  have K3 := Keeps.new (Ch.wf K) 36 [Value.int IntKind.i64 0, Value.int IntKind.i64 0, Value.bool false]
  have V3 := Var.new (e := 36) (Ch.wf K) (cs := [Value.int IntKind.i64 0, Value.int IntKind.i64 0, Value.bool false])
  obtain ⟨h4, e4, V4, C4, z4⟩ := V3.store (P := prog) (t := 36) (v := .agg #[.int .i64 f.fr, .int .i64 f.to, .bool f.cl]) (i := 0) (Ch.wf K3) asz36 (by simp [Value.cells]) (by simp [Value.cells, one])
  rw [e4]; clear e4
  simp only [Value.cells, over_all (xs := [Value.int IntKind.i64 0, Value.int IntKind.i64 0, Value.bool false]) (vs := [.int .i64 f.fr, .int .i64 f.to, .bool f.cl]) rfl] at V4
  have K14 := K3.step C4 (fun b hb => by omega)
  have K4 := K.trans K14
  have fb : f.to ≤ 1099511627776 ∧ -1099511627776 ≤ f.fr := by
    rcases hget k f hx with ⟨_, hf⟩ | ⟨_, rfl⟩
    · exact nearF_at hn hf
    · simp only; omega
  have W0 := fun {hh : Heap} (V : Var hh h'.size [.int .i64 f.fr, .int .i64 f.to, .bool f.cl]) => V.load1 (P := prog) (t := 3) underlying3 rfl (i := 0)
  have W1 := fun {hh : Heap} (V : Var hh h'.size [.int .i64 f.fr, .int .i64 f.to, .bool f.cl]) => V.load1 (P := prog) (t := 3) underlying3 rfl (i := 1)
  have W2 := fun {hh : Heap} (V : Var hh h'.size [.int .i64 f.fr, .int .i64 f.to, .bool f.cl]) => V.load1 (P := prog) (t := 4) underlying4 rfl (i := 2)
  simp only [List.getElem?_cons_succ, List.getElem?_cons_zero] at W0 W1 W2
  have RL4 : FR h4 lv L := RS.keeps RL K14
  have O4 := O.keeps K14
  have hov : ∀ y, blkOf ov = some y → y ≠ h'.size := fun y hy => by have := (Rd.blk_lt O.1 hy).1; omega
  by_cases hskip : f.cl = false ∧ f.fr < n
  · obtain ⟨hcl, hfn⟩ := hskip
    have d1 : decide (f.fr < n) = true := decide_eq_true hfn
    have W2' := W2 V4
    rw [hcl] at W2'
    simp (disch := omega) only [wk, wt, wl, ↓reduceIte, Nat.reduceEqDiff, Nat.reduceAdd, Nat.zero_add, not_false_eq_true, not_true_eq_false, t0, t1, t20, t21, t22, t5, t6, W0 V4, W2', Bool.not_false, d1, IntWalk.i64_in, intOf_int]
    rcases hget k f hx with ⟨hkl, hf⟩ | ⟨_, rfl⟩
    · refine ⟨⟨K4, RL4, k + 1, i, ov, out, by simp, rfl, rfl, by omega, hi0, hi1, O4, hol, ho3, fun j g hj hg hgc => ?_, fun j g hj hg => inv2 j g (by omega) hg, hrow⟩, by omega⟩
      by_cases e : j = k
      · subst e; rw [hf] at hg; cases hg; rw [hcl] at hgc; cases hgc
      · exact inv1 j g (by omega) hg hgc
    · simp only at hfn; omega
  · have cond8 : (∃ b, f.cl = b ∧ (b = true ∨ (b = false ∧ decide (f.fr < n) = false))) := by
      cases hcl : f.cl with
      | true => exact ⟨true, rfl, .inl rfl⟩
      | false => exact ⟨false, rfl, .inr ⟨rfl, decide_eq_false fun e => hskip ⟨hcl, e⟩⟩⟩
    obtain ⟨bc, hbc, hcase⟩ := cond8
    have W2' := W2 V4
    rw [hbc] at W2'
    rcases hcase with rfl | ⟨rfl, d1⟩
    · simp (disch := omega) only [wk, wt, wl, ↓reduceIte, Nat.reduceEqDiff, Nat.reduceAdd, Nat.zero_add, not_false_eq_true, not_true_eq_false, t0, t1, t20, t21, t22, t5, t6, W0 V4, W2', Bool.not_true]
      refine W_loop (fun tm hh => Keeps h hh ∧ tm 0 = v ∧ tm 1 = .int .i64 n ∧ tm 20 = lv ∧ tm 21 = .int .i64 L.length ∧ tm 22 = .int .i64 k ∧ tm 8 = .pointer (some ⟨h'.size, 0, none⟩) ∧ FR hh lv L ∧ Var hh h'.size [.int .i64 f.fr, .int .i64 f.to, .bool f.cl] ∧ ∃ (x : Int) (ov : Value) (out : List F), tm 6 = .int .i64 x ∧ tm 5 = ov ∧ i ≤ x ∧ (x ≤ f.fr ∨ x = i) ∧ x ≤ 1099511627777 ∧
          OS prog h.size hh 3 cF ov out ∧ (∀ y, blkOf ov = some y → y ≠ h'.size) ∧ (out.length : Int) ≤ x ∧ out.length ≤ 3000 ∧ ∀ r, RowsR l n x r → RowsR l n 0 (out ++ r)) (fun tm _ => (f.fr - intOf (tm 6)).toNat)
        ⟨K4, (by first | rfl | (simp only [wk, wt, wl, ↓reduceIte, Nat.reduceEqDiff, Nat.reduceAdd, Nat.zero_add, not_false_eq_true, not_true_eq_false]; done) | (simp only [wk, wt, wl, ↓reduceIte, Nat.reduceEqDiff, Nat.reduceAdd, Nat.zero_add, not_false_eq_true, not_true_eq_false]; rfl) | (simp only [wk, wt, wl, ↓reduceIte, Nat.reduceEqDiff, Nat.reduceAdd, Nat.zero_add, not_false_eq_true, not_true_eq_false, t0]; done) | (simp only [wk, wt, wl, ↓reduceIte, Nat.reduceEqDiff, Nat.reduceAdd, Nat.zero_add, not_false_eq_true, not_true_eq_false, t0]; rfl)), (by first | rfl | (simp only [wk, wt, wl, ↓reduceIte, Nat.reduceEqDiff, Nat.reduceAdd, Nat.zero_add, not_false_eq_true, not_true_eq_false]; done) | (simp only [wk, wt, wl, ↓reduceIte, Nat.reduceEqDiff, Nat.reduceAdd, Nat.zero_add, not_false_eq_true, not_true_eq_false]; rfl) | (simp only [wk, wt, wl, ↓reduceIte, Nat.reduceEqDiff, Nat.reduceAdd, Nat.zero_add, not_false_eq_true, not_true_eq_false, t1]; done) | (simp only [wk, wt, wl, ↓reduceIte, Nat.reduceEqDiff, Nat.reduceAdd, Nat.zero_add, not_false_eq_true, not_true_eq_false, t1]; rfl)), (by first | rfl | (simp only [wk, wt, wl, ↓reduceIte, Nat.reduceEqDiff, Nat.reduceAdd, Nat.zero_add, not_false_eq_true, not_true_eq_false]; done) | (simp only [wk, wt, wl, ↓reduceIte, Nat.reduceEqDiff, Nat.reduceAdd, Nat.zero_add, not_false_eq_true, not_true_eq_false]; rfl) | (simp only [wk, wt, wl, ↓reduceIte, Nat.reduceEqDiff, Nat.reduceAdd, Nat.zero_add, not_false_eq_true, not_true_eq_false, t20]; done) | (simp only [wk, wt, wl, ↓reduceIte, Nat.reduceEqDiff, Nat.reduceAdd, Nat.zero_add, not_false_eq_true, not_true_eq_false, t20]; rfl)), (by first | rfl | (simp only [wk, wt, wl, ↓reduceIte, Nat.reduceEqDiff, Nat.reduceAdd, Nat.zero_add, not_false_eq_true, not_true_eq_false]; done) | (simp only [wk, wt, wl, ↓reduceIte, Nat.reduceEqDiff, Nat.reduceAdd, Nat.zero_add, not_false_eq_true, not_true_eq_false]; rfl) | (simp only [wk, wt, wl, ↓reduceIte, Nat.reduceEqDiff, Nat.reduceAdd, Nat.zero_add, not_false_eq_true, not_true_eq_false, t21]; done) | (simp only [wk, wt, wl, ↓reduceIte, Nat.reduceEqDiff, Nat.reduceAdd, Nat.zero_add, not_false_eq_true, not_true_eq_false, t21]; rfl)), (by first | rfl | (simp only [wk, wt, wl, ↓reduceIte, Nat.reduceEqDiff, Nat.reduceAdd, Nat.zero_add, not_false_eq_true, not_true_eq_false]; done) | (simp only [wk, wt, wl, ↓reduceIte, Nat.reduceEqDiff, Nat.reduceAdd, Nat.zero_add, not_false_eq_true, not_true_eq_false]; rfl) | (simp only [wk, wt, wl, ↓reduceIte, Nat.reduceEqDiff, Nat.reduceAdd, Nat.zero_add, not_false_eq_true, not_true_eq_false, t22]; done) | (simp only [wk, wt, wl, ↓reduceIte, Nat.reduceEqDiff, Nat.reduceAdd, Nat.zero_add, not_false_eq_true, not_true_eq_false, t22]; rfl)), (by first | rfl | (simp only [wk, wt, wl, ↓reduceIte, Nat.reduceEqDiff, Nat.reduceAdd, Nat.zero_add, not_false_eq_true, not_true_eq_false]; done) | (simp only [wk, wt, wl, ↓reduceIte, Nat.reduceEqDiff, Nat.reduceAdd, Nat.zero_add, not_false_eq_true, not_true_eq_false]; rfl)), RL4, V4, i, ov, out, (by first | rfl | (simp only [wk, wt, wl, ↓reduceIte, Nat.reduceEqDiff, Nat.reduceAdd, Nat.zero_add, not_false_eq_true, not_true_eq_false]; done) | (simp only [wk, wt, wl, ↓reduceIte, Nat.reduceEqDiff, Nat.reduceAdd, Nat.zero_add, not_false_eq_true, not_true_eq_false]; rfl) | (simp only [wk, wt, wl, ↓reduceIte, Nat.reduceEqDiff, Nat.reduceAdd, Nat.zero_add, not_false_eq_true, not_true_eq_false, t6]; done) | (simp only [wk, wt, wl, ↓reduceIte, Nat.reduceEqDiff, Nat.reduceAdd, Nat.zero_add, not_false_eq_true, not_true_eq_false, t6]; rfl)), (by first | rfl | (simp only [wk, wt, wl, ↓reduceIte, Nat.reduceEqDiff, Nat.reduceAdd, Nat.zero_add, not_false_eq_true, not_true_eq_false]; done) | (simp only [wk, wt, wl, ↓reduceIte, Nat.reduceEqDiff, Nat.reduceAdd, Nat.zero_add, not_false_eq_true, not_true_eq_false]; rfl) | (simp only [wk, wt, wl, ↓reduceIte, Nat.reduceEqDiff, Nat.reduceAdd, Nat.zero_add, not_false_eq_true, not_true_eq_false, t5]; done) | (simp only [wk, wt, wl, ↓reduceIte, Nat.reduceEqDiff, Nat.reduceAdd, Nat.zero_add, not_false_eq_true, not_true_eq_false, t5]; rfl)), by omega, .inr rfl, by omega, O4, hov, hol, ho3, hrow⟩ ?_
      clear K4 RL4 V4 O4 hov hol ho3 hrow O W2' C4 K14 V3 K3
      rintro tm hh ⟨K, t0, t1, t20, t21, t22, t8, RL, V, x, ov, out, t6, t5, hix, hxf, hxb, O, hov, hol, ho3, hrow⟩
      simp (disch := omega) only [wk, wt, wl, ↓reduceIte, Nat.reduceEqDiff, Nat.reduceAdd, Nat.zero_add, not_false_eq_true, not_true_eq_false, t0, t1, t20, t21, t22, t8, t5, t6, W0 V]
      refine condK_dec (fun hd => ?_) (fun hd => ?_)
      · simp (disch := omega) only [wk, wt, wl, ↓reduceIte, Nat.reduceEqDiff, Nat.reduceAdd, Nat.zero_add, not_false_eq_true, not_true_eq_false, t0, t1, t20, t21, t22, t8, t5, t6]
        refine condK_dec (fun hc => ?_) (fun hc => ?_)
        · simp (disch := omega) only [wk, wt, wl, ↓reduceIte, Nat.reduceEqDiff, Nat.reduceAdd, Nat.zero_add, not_false_eq_true, not_true_eq_false, t5]
          exact ⟨out, by simpa using hrow [] (.done (by omega)), O.rs, ho3, K⟩
        · have hgap := shown_gap (l := l) (x := x) fun j g hg hgc => by
            rcases Nat.lt_or_ge j k with hj | hj
            · have := inv1 j g hj hg hgc; omega
            · rcases hget k f hx with ⟨_, hf⟩ | ⟨hke, _⟩
              · rcases Nat.lt_or_eq_of_le hj with hj | rfl
                · have := r2 k j f g hj hf hg; have := r1 k f hf; omega
                · rw [hf] at hg; cases hg; omega
              · have := (List.getElem?_eq_some_iff.1 hg).1; omega
          simp (disch := omega) only [wk, wt, wl, ↓reduceIte, Nat.reduceEqDiff, Nat.reduceAdd, Nat.zero_add, not_false_eq_true, not_true_eq_false, t0, t1, t20, t21, t22, t8, t5, t6, build_f2, bsf]
          obtain ⟨v2, h2, e2, O2, C2, R2, ev2⟩ := O.append1 (P := prog) (Ch.wf K) (Ch.le K) underlying22 elem36 fits36 (by decide) (by decide) ⟨x, x, false⟩ rfl (by omega)
          rw [e2]; clear e2
          have KK := K.step C2 fun b hb => hb.2
          have V2 := Ch.var (Ch.wf K) C2 V fun e => hov _ e.1 rfl
          have hlt := V.lt (Ch.wf K)
          simp (disch := omega) only [wk, wt, wl, ↓reduceIte, Nat.reduceEqDiff, Nat.reduceAdd, Nat.zero_add, not_false_eq_true, not_true_eq_false, t0, t1, t20, t21, t22, t8, t6, IntWalk.i64_in, intOf_int]
          refine ⟨⟨KK, Rd.reads RL C2.le R2, V2, x + 1, v2, out ++ [⟨x, x, false⟩], rfl, rfl, by omega, by omega, by omega, O2, fun y hy => ?_, by simp only [List.length_append, List.length_singleton]; omega, by simp only [List.length_append, List.length_singleton]; omega, fun r g => ?_⟩, by omega⟩
          · rw [ev2] at hy; simp only [blkOf, Option.some.injEq] at hy; omega
          · rw [List.append_assoc]
            have st := RowsR.step (l := l) (n := n) (i := x) (by omega) (by rw [hgap.2]; exact g)
            rw [hgap.1, hgap.2, if_neg (by omega)] at st
            have e : x + 1 - 1 = x := by omega
            rw [e] at st
            exact hrow _ st
      · simp (disch := omega) only [wk, wt, wl, ↓reduceIte, Nat.reduceEqDiff, Nat.reduceAdd, Nat.zero_add, not_false_eq_true, not_true_eq_false, t0, t1, t20, t21, t22, t8, t5, t6]
        refine condK_dec (fun hc => ?_) (fun hc => ?_)
        · simp (disch := omega) only [wk, wt, wl, ↓reduceIte, Nat.reduceEqDiff, Nat.reduceAdd, Nat.zero_add, not_false_eq_true, not_true_eq_false, t5]
          exact ⟨out, by simpa using hrow [] (.done (by omega)), O.rs, ho3, K⟩
        · obtain ⟨hf, hxe, hcl⟩ : l[k]? = some f ∧ x = f.fr ∧ f.cl = true := by
            rcases hget k f hx with ⟨_, hf⟩ | ⟨_, rfl⟩
            · have := inv2 k f (Nat.le_refl _) hf
              refine ⟨hf, by omega, ?_⟩
              cases hcl : f.cl with
              | true => rfl
              | false => exact absurd ⟨hcl, by omega⟩ hskip
            · exfalso; simp only at hxf hd hix; omega
          have hkl := (List.getElem?_eq_some_iff.1 hf).1
          have hff := r1 k f hf
          have hsf := shown_fold hr hf hcl
          obtain ⟨m, hm⟩ : ∃ m, m = (if n - 1 < f.to then n - 1 else f.to) := ⟨_, rfl⟩
          simp (disch := omega) only [wk, wt, wl, ↓reduceIte, Nat.reduceEqDiff, Nat.reduceAdd, Nat.zero_add, not_false_eq_true, not_true_eq_false, t0, t1, t20, t21, t22, t8, t5, t6, W1 V, IntWalk.i64_in, abuiltin_min, ← hm, build_f3, bsf]
          obtain ⟨v2, h2, e2, O2, C2, R2, ev2⟩ := O.append1 (P := prog) (Ch.wf K) (Ch.le K) underlying22 elem36 fits36 (by decide) (by decide) ⟨x, m, true⟩ rfl (by omega)
          rw [e2]; clear e2
          have KK := K.step C2 fun b hb => hb.2
          have V2 := Ch.var (Ch.wf K) C2 V fun e => hov _ e.1 rfl
          simp (disch := omega) only [wk, wt, wl, ↓reduceIte, Nat.reduceEqDiff, Nat.reduceAdd, Nat.zero_add, not_false_eq_true, not_true_eq_false, t0, t1, t20, t21, t22, t8, t6, W1 V2, IntWalk.i64_in, intOf_int]
          refine ⟨⟨KK, Rd.reads RL C2.le R2, k + 1, f.to + 1, v2, out ++ [⟨x, m, true⟩], by simp, rfl, rfl, by omega, by omega, by omega, O2, by simp only [List.length_append, List.length_singleton]; omega, by simp only [List.length_append, List.length_singleton]; omega, fun j g hj hg hgc => ?_, fun j g hj hg => by have := r2 k j f g (by omega) hf hg; omega, fun r g => ?_⟩, by omega⟩
          · by_cases e : j = k
            · subst e; rw [hf] at hg; cases hg; omega
            · have := inv1 j g (by omega) hg hgc; omega
          · rw [List.append_assoc]
            have st := RowsR.step (l := l) (n := n) (i := f.fr) (by omega) (by rw [hsf.2]; exact g)
            rw [hsf.1, hsf.2] at st
            have e : (if n < f.to + 1 then n else f.to + 1) - 1 = m := by rw [hm]; split <;> split <;> omega
            rw [e] at st
            rw [hxe] at hrow ⊢
            exact hrow _ st
    · simp (disch := omega) only [wk, wt, wl, ↓reduceIte, Nat.reduceEqDiff, Nat.reduceAdd, Nat.zero_add, not_false_eq_true, not_true_eq_false, t0, t1, t20, t21, t22, t5, t6, W0 V4, W2', Bool.not_false, d1]
      refine W_loop (fun tm hh => Keeps h hh ∧ tm 0 = v ∧ tm 1 = .int .i64 n ∧ tm 20 = lv ∧ tm 21 = .int .i64 L.length ∧ tm 22 = .int .i64 k ∧ tm 8 = .pointer (some ⟨h'.size, 0, none⟩) ∧ FR hh lv L ∧ Var hh h'.size [.int .i64 f.fr, .int .i64 f.to, .bool f.cl] ∧ ∃ (x : Int) (ov : Value) (out : List F), tm 6 = .int .i64 x ∧ tm 5 = ov ∧ i ≤ x ∧ (x ≤ f.fr ∨ x = i) ∧ x ≤ 1099511627777 ∧
          OS prog h.size hh 3 cF ov out ∧ (∀ y, blkOf ov = some y → y ≠ h'.size) ∧ (out.length : Int) ≤ x ∧ out.length ≤ 3000 ∧ ∀ r, RowsR l n x r → RowsR l n 0 (out ++ r)) (fun tm _ => (f.fr - intOf (tm 6)).toNat)
        ⟨K4, (by first | rfl | (simp only [wk, wt, wl, ↓reduceIte, Nat.reduceEqDiff, Nat.reduceAdd, Nat.zero_add, not_false_eq_true, not_true_eq_false]; done) | (simp only [wk, wt, wl, ↓reduceIte, Nat.reduceEqDiff, Nat.reduceAdd, Nat.zero_add, not_false_eq_true, not_true_eq_false]; rfl) | (simp only [wk, wt, wl, ↓reduceIte, Nat.reduceEqDiff, Nat.reduceAdd, Nat.zero_add, not_false_eq_true, not_true_eq_false, t0]; done) | (simp only [wk, wt, wl, ↓reduceIte, Nat.reduceEqDiff, Nat.reduceAdd, Nat.zero_add, not_false_eq_true, not_true_eq_false, t0]; rfl)), (by first | rfl | (simp only [wk, wt, wl, ↓reduceIte, Nat.reduceEqDiff, Nat.reduceAdd, Nat.zero_add, not_false_eq_true, not_true_eq_false]; done) | (simp only [wk, wt, wl, ↓reduceIte, Nat.reduceEqDiff, Nat.reduceAdd, Nat.zero_add, not_false_eq_true, not_true_eq_false]; rfl) | (simp only [wk, wt, wl, ↓reduceIte, Nat.reduceEqDiff, Nat.reduceAdd, Nat.zero_add, not_false_eq_true, not_true_eq_false, t1]; done) | (simp only [wk, wt, wl, ↓reduceIte, Nat.reduceEqDiff, Nat.reduceAdd, Nat.zero_add, not_false_eq_true, not_true_eq_false, t1]; rfl)), (by first | rfl | (simp only [wk, wt, wl, ↓reduceIte, Nat.reduceEqDiff, Nat.reduceAdd, Nat.zero_add, not_false_eq_true, not_true_eq_false]; done) | (simp only [wk, wt, wl, ↓reduceIte, Nat.reduceEqDiff, Nat.reduceAdd, Nat.zero_add, not_false_eq_true, not_true_eq_false]; rfl) | (simp only [wk, wt, wl, ↓reduceIte, Nat.reduceEqDiff, Nat.reduceAdd, Nat.zero_add, not_false_eq_true, not_true_eq_false, t20]; done) | (simp only [wk, wt, wl, ↓reduceIte, Nat.reduceEqDiff, Nat.reduceAdd, Nat.zero_add, not_false_eq_true, not_true_eq_false, t20]; rfl)), (by first | rfl | (simp only [wk, wt, wl, ↓reduceIte, Nat.reduceEqDiff, Nat.reduceAdd, Nat.zero_add, not_false_eq_true, not_true_eq_false]; done) | (simp only [wk, wt, wl, ↓reduceIte, Nat.reduceEqDiff, Nat.reduceAdd, Nat.zero_add, not_false_eq_true, not_true_eq_false]; rfl) | (simp only [wk, wt, wl, ↓reduceIte, Nat.reduceEqDiff, Nat.reduceAdd, Nat.zero_add, not_false_eq_true, not_true_eq_false, t21]; done) | (simp only [wk, wt, wl, ↓reduceIte, Nat.reduceEqDiff, Nat.reduceAdd, Nat.zero_add, not_false_eq_true, not_true_eq_false, t21]; rfl)), (by first | rfl | (simp only [wk, wt, wl, ↓reduceIte, Nat.reduceEqDiff, Nat.reduceAdd, Nat.zero_add, not_false_eq_true, not_true_eq_false]; done) | (simp only [wk, wt, wl, ↓reduceIte, Nat.reduceEqDiff, Nat.reduceAdd, Nat.zero_add, not_false_eq_true, not_true_eq_false]; rfl) | (simp only [wk, wt, wl, ↓reduceIte, Nat.reduceEqDiff, Nat.reduceAdd, Nat.zero_add, not_false_eq_true, not_true_eq_false, t22]; done) | (simp only [wk, wt, wl, ↓reduceIte, Nat.reduceEqDiff, Nat.reduceAdd, Nat.zero_add, not_false_eq_true, not_true_eq_false, t22]; rfl)), (by first | rfl | (simp only [wk, wt, wl, ↓reduceIte, Nat.reduceEqDiff, Nat.reduceAdd, Nat.zero_add, not_false_eq_true, not_true_eq_false]; done) | (simp only [wk, wt, wl, ↓reduceIte, Nat.reduceEqDiff, Nat.reduceAdd, Nat.zero_add, not_false_eq_true, not_true_eq_false]; rfl)), RL4, V4, i, ov, out, (by first | rfl | (simp only [wk, wt, wl, ↓reduceIte, Nat.reduceEqDiff, Nat.reduceAdd, Nat.zero_add, not_false_eq_true, not_true_eq_false]; done) | (simp only [wk, wt, wl, ↓reduceIte, Nat.reduceEqDiff, Nat.reduceAdd, Nat.zero_add, not_false_eq_true, not_true_eq_false]; rfl) | (simp only [wk, wt, wl, ↓reduceIte, Nat.reduceEqDiff, Nat.reduceAdd, Nat.zero_add, not_false_eq_true, not_true_eq_false, t6]; done) | (simp only [wk, wt, wl, ↓reduceIte, Nat.reduceEqDiff, Nat.reduceAdd, Nat.zero_add, not_false_eq_true, not_true_eq_false, t6]; rfl)), (by first | rfl | (simp only [wk, wt, wl, ↓reduceIte, Nat.reduceEqDiff, Nat.reduceAdd, Nat.zero_add, not_false_eq_true, not_true_eq_false]; done) | (simp only [wk, wt, wl, ↓reduceIte, Nat.reduceEqDiff, Nat.reduceAdd, Nat.zero_add, not_false_eq_true, not_true_eq_false]; rfl) | (simp only [wk, wt, wl, ↓reduceIte, Nat.reduceEqDiff, Nat.reduceAdd, Nat.zero_add, not_false_eq_true, not_true_eq_false, t5]; done) | (simp only [wk, wt, wl, ↓reduceIte, Nat.reduceEqDiff, Nat.reduceAdd, Nat.zero_add, not_false_eq_true, not_true_eq_false, t5]; rfl)), by omega, .inr rfl, by omega, O4, hov, hol, ho3, hrow⟩ ?_
      clear K4 RL4 V4 O4 hov hol ho3 hrow O W2' C4 K14 V3 K3
      rintro tm hh ⟨K, t0, t1, t20, t21, t22, t8, RL, V, x, ov, out, t6, t5, hix, hxf, hxb, O, hov, hol, ho3, hrow⟩
      simp (disch := omega) only [wk, wt, wl, ↓reduceIte, Nat.reduceEqDiff, Nat.reduceAdd, Nat.zero_add, not_false_eq_true, not_true_eq_false, t0, t1, t20, t21, t22, t8, t5, t6, W0 V]
      refine condK_dec (fun hd => ?_) (fun hd => ?_)
      · simp (disch := omega) only [wk, wt, wl, ↓reduceIte, Nat.reduceEqDiff, Nat.reduceAdd, Nat.zero_add, not_false_eq_true, not_true_eq_false, t0, t1, t20, t21, t22, t8, t5, t6]
        refine condK_dec (fun hc => ?_) (fun hc => ?_)
        · simp (disch := omega) only [wk, wt, wl, ↓reduceIte, Nat.reduceEqDiff, Nat.reduceAdd, Nat.zero_add, not_false_eq_true, not_true_eq_false, t5]
          exact ⟨out, by simpa using hrow [] (.done (by omega)), O.rs, ho3, K⟩
        · have hgap := shown_gap (l := l) (x := x) fun j g hg hgc => by
            rcases Nat.lt_or_ge j k with hj | hj
            · have := inv1 j g hj hg hgc; omega
            · rcases hget k f hx with ⟨_, hf⟩ | ⟨hke, _⟩
              · rcases Nat.lt_or_eq_of_le hj with hj | rfl
                · have := r2 k j f g hj hf hg; have := r1 k f hf; omega
                · rw [hf] at hg; cases hg; omega
              · have := (List.getElem?_eq_some_iff.1 hg).1; omega
          simp (disch := omega) only [wk, wt, wl, ↓reduceIte, Nat.reduceEqDiff, Nat.reduceAdd, Nat.zero_add, not_false_eq_true, not_true_eq_false, t0, t1, t20, t21, t22, t8, t5, t6, build_f2, bsf]
          obtain ⟨v2, h2, e2, O2, C2, R2, ev2⟩ := O.append1 (P := prog) (Ch.wf K) (Ch.le K) underlying22 elem36 fits36 (by decide) (by decide) ⟨x, x, false⟩ rfl (by omega)
          rw [e2]; clear e2
          have KK := K.step C2 fun b hb => hb.2
          have V2 := Ch.var (Ch.wf K) C2 V fun e => hov _ e.1 rfl
          have hlt := V.lt (Ch.wf K)
          simp (disch := omega) only [wk, wt, wl, ↓reduceIte, Nat.reduceEqDiff, Nat.reduceAdd, Nat.zero_add, not_false_eq_true, not_true_eq_false, t0, t1, t20, t21, t22, t8, t6, IntWalk.i64_in, intOf_int]
          refine ⟨⟨KK, Rd.reads RL C2.le R2, V2, x + 1, v2, out ++ [⟨x, x, false⟩], rfl, rfl, by omega, by omega, by omega, O2, fun y hy => ?_, by simp only [List.length_append, List.length_singleton]; omega, by simp only [List.length_append, List.length_singleton]; omega, fun r g => ?_⟩, by omega⟩
          · rw [ev2] at hy; simp only [blkOf, Option.some.injEq] at hy; omega
          · rw [List.append_assoc]
            have st := RowsR.step (l := l) (n := n) (i := x) (by omega) (by rw [hgap.2]; exact g)
            rw [hgap.1, hgap.2, if_neg (by omega)] at st
            have e : x + 1 - 1 = x := by omega
            rw [e] at st
            exact hrow _ st
      · simp (disch := omega) only [wk, wt, wl, ↓reduceIte, Nat.reduceEqDiff, Nat.reduceAdd, Nat.zero_add, not_false_eq_true, not_true_eq_false, t0, t1, t20, t21, t22, t8, t5, t6]
        refine condK_dec (fun hc => ?_) (fun hc => ?_)
        · simp (disch := omega) only [wk, wt, wl, ↓reduceIte, Nat.reduceEqDiff, Nat.reduceAdd, Nat.zero_add, not_false_eq_true, not_true_eq_false, t5]
          exact ⟨out, by simpa using hrow [] (.done (by omega)), O.rs, ho3, K⟩
        · obtain ⟨hf, hxe, hcl⟩ : l[k]? = some f ∧ x = f.fr ∧ f.cl = true := by
            rcases hget k f hx with ⟨_, hf⟩ | ⟨_, rfl⟩
            · have := inv2 k f (Nat.le_refl _) hf
              refine ⟨hf, by omega, ?_⟩
              cases hcl : f.cl with
              | true => rfl
              | false => exact absurd ⟨hcl, by omega⟩ hskip
            · exfalso; simp only at hxf hd hix; omega
          have hkl := (List.getElem?_eq_some_iff.1 hf).1
          have hff := r1 k f hf
          have hsf := shown_fold hr hf hcl
          obtain ⟨m, hm⟩ : ∃ m, m = (if n - 1 < f.to then n - 1 else f.to) := ⟨_, rfl⟩
          simp (disch := omega) only [wk, wt, wl, ↓reduceIte, Nat.reduceEqDiff, Nat.reduceAdd, Nat.zero_add, not_false_eq_true, not_true_eq_false, t0, t1, t20, t21, t22, t8, t5, t6, W1 V, IntWalk.i64_in, abuiltin_min, ← hm, build_f3, bsf]
          obtain ⟨v2, h2, e2, O2, C2, R2, ev2⟩ := O.append1 (P := prog) (Ch.wf K) (Ch.le K) underlying22 elem36 fits36 (by decide) (by decide) ⟨x, m, true⟩ rfl (by omega)
          rw [e2]; clear e2
          have KK := K.step C2 fun b hb => hb.2
          have V2 := Ch.var (Ch.wf K) C2 V fun e => hov _ e.1 rfl
          simp (disch := omega) only [wk, wt, wl, ↓reduceIte, Nat.reduceEqDiff, Nat.reduceAdd, Nat.zero_add, not_false_eq_true, not_true_eq_false, t0, t1, t20, t21, t22, t8, t6, W1 V2, IntWalk.i64_in, intOf_int]
          refine ⟨⟨KK, Rd.reads RL C2.le R2, k + 1, f.to + 1, v2, out ++ [⟨x, m, true⟩], by simp, rfl, rfl, by omega, by omega, by omega, O2, by simp only [List.length_append, List.length_singleton]; omega, by simp only [List.length_append, List.length_singleton]; omega, fun j g hj hg hgc => ?_, fun j g hj hg => by have := r2 k j f g (by omega) hf hg; omega, fun r g => ?_⟩, by omega⟩
          · by_cases e : j = k
            · subst e; rw [hf] at hg; cases hg; omega
            · have := inv1 j g (by omega) hg hgc; omega
          · rw [List.append_assoc]
            have st := RowsR.step (l := l) (n := n) (i := f.fr) (by omega) (by rw [hsf.2]; exact g)
            rw [hsf.1, hsf.2] at st
            have e : (if n < f.to + 1 then n else f.to + 1) - 1 = m := by rw [hm]; split <;> split <;> omega
            rw [e] at st
            rw [hxe] at hrow ⊢
            exact hrow _ st
end Go.Proofs.Ytgfccaaalkkdlaa.Am
