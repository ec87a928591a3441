/- A feeder of bytes: contracts of utf.NewFeeder, Feed, Held, Flush and Decode, by walks. -/
import Derived.Test.YtgllmnckphbkeaaVj
set_option linter.unusedSimpArgs false
set_option linter.unusedVariables false
set_option maxHeartbeats 4000000
namespace Go.Proofs.Ytgllmnckphbkeaa.Am
open Go Go.RowKit Go.Proofs.Try
theorem vI_append {a b : List Int} : vI (a ++ b) = vI a ++ vI b := by simp [vI]
/-- A feeder and what it holds. -/
def FD (h : Heap) (f : Nat) (s : List Int) : Prop := ∃ rv, Var h f [rv] ∧ RdI prog h .u8 rv s
theorem FD.lt {h : Heap} {f : Nat} {s : List Int} (H : Wf h) (F : FD h f s) : f < h.size := by
  obtain ⟨rv, V, _⟩ := F
  exact V.lt H
theorem FD.keeps {h h' : Heap} {f : Nat} {s : List Int} (H : Wf h) (F : FD h f s) (K : Keeps h h') : FD h' f s := by
  obtain ⟨rv, V, R⟩ := F
  exact ⟨rv, Keeps.var H K V, R.keeps K⟩
theorem abuild_feeder : abuild prog 49 #[] = some (.agg #[.slice none 0 0]) := by
  simp [abuild, wt, aplaces, Instr.fill, Value.cells]
theorem newFeeder_ok {h : Heap} : ACalls prog 22 #[] h (fun v h' => v = .pointer (some ⟨h.size, 0, none⟩) ∧ h' = h.new 49 [.slice none 0 0]) := by
  refine acalls_of_W func22 rfl (by kernel_rfl) (by kernel_rfl) (by simp [ntmps22]) ?_
  have hb : ∀ {tm : Tm} {h : Heap} {i : Nat}, tm i = .agg #[.slice none 0 0] → aeff prog tm h (.box 49 (.tmp i)) = some (.pointer (some ⟨h.size, 0, none⟩), h.new 49 [.slice none 0 0]) := fun ht => box_new (by simp [ev, ht, Value.cells]) ⟨_, asz49⟩ (by simp only [ev, ht, Value.cells]; simp [one])
  simp only [wk, wt, wl, ↓reduceIte, Nat.reduceEqDiff, Nat.reduceAdd, Nat.zero_add, not_false_eq_true, not_true_eq_false, abuild_feeder]
  rw [hb (by simp only [wk, wt, wl, ↓reduceIte, Nat.reduceEqDiff, Nat.reduceAdd, Nat.zero_add, not_false_eq_true, not_true_eq_false])]
  simp only [wk, wt, wl, ↓reduceIte, Nat.reduceEqDiff, Nat.reduceAdd, Nat.zero_add, not_false_eq_true, not_true_eq_false]
theorem held_ok {f : Nat} {s : List Int} {h : Heap} (F : FD h f s) : ACalls prog 24 #[.pointer (some ⟨f, 0, none⟩)] h (fun v h' => v = .int .i64 s.length ∧ h' = h) := by
  obtain ⟨rv, V, R⟩ := F
  have W0 := V.load1 (P := prog) (t := 22) underlying22 rfl (i := 0)
  simp only [List.getElem?_cons_zero] at W0
  refine acalls_of_W func24 rfl (by kernel_rfl) (by kernel_rfl) (by simp [ntmps24]) ?_
  simp only [wk, wt, wl, ↓reduceIte, Nat.reduceEqDiff, Nat.reduceAdd, Nat.zero_add, not_false_eq_true, not_true_eq_false, ptr_some (P := prog) underlying37, W0, RdI.len R underlying22]
theorem flush_ok {f : Nat} {s : List Int} {h : Heap} (F : FD h f s) (hs : s.length ≤ 1000000000) :
    ACalls prog 25 #[.pointer (some ⟨f, 0, none⟩)] h (fun v h' => Own prog h.size h' 1 v s.length (vI (List.replicate s.length 65533)) ∧ (∀ y, blkOf v = some y → h.size ≤ y) ∧ FD h' f [] ∧ Ch (fun y => y = f) h h') := by
  refine acalls_of_W' func25 rfl (by kernel_rfl) (by kernel_rfl) (by simp [ntmps25]) ?_
  intro H
  have hf := F.lt H
  obtain ⟨rv, V, R⟩ := F
  have W0 := V.load1 (P := prog) (t := 22) underlying22 rfl (i := 0)
  simp only [List.getElem?_cons_zero] at W0
  simp only [wk, wt, wl, ↓reduceIte, Nat.reduceEqDiff, Nat.reduceAdd, Nat.zero_add, not_false_eq_true, not_true_eq_false, ptr_some (P := prog) underlying37, W0, RdI.len R underlying22]
  refine W_loop (fun tm h' => Keeps h h' ∧ tm 0 = .pointer (some ⟨f, 0, none⟩) ∧ tm 10 = .int .i64 s.length ∧ ∃ (i : Nat) (v : Value), tm 11 = .int .i64 i ∧ tm 3 = v ∧ i ≤ s.length ∧ Own prog h.size h' 1 v i (vI (List.replicate i 65533)) ∧ ∀ y, blkOf v = some y → h.size ≤ y) (fun tm _ => (s.length - intOf (tm 11)).toNat)
    ⟨Keeps.refl H, (by first | rfl | (simp only [wk, wt, wl, ↓reduceIte, Nat.reduceEqDiff, Nat.reduceAdd, Nat.zero_add, not_false_eq_true, not_true_eq_false]; done) | (simp only [wk, wt, wl, ↓reduceIte, Nat.reduceEqDiff, Nat.reduceAdd, Nat.zero_add, not_false_eq_true, not_true_eq_false]; rfl)), (by first | rfl | (simp only [wk, wt, wl, ↓reduceIte, Nat.reduceEqDiff, Nat.reduceAdd, Nat.zero_add, not_false_eq_true, not_true_eq_false]; done) | (simp only [wk, wt, wl, ↓reduceIte, Nat.reduceEqDiff, Nat.reduceAdd, Nat.zero_add, not_false_eq_true, not_true_eq_false]; rfl)), 0, .slice none 0 0, (by first | rfl | (simp only [wk, wt, wl, ↓reduceIte, Nat.reduceEqDiff, Nat.reduceAdd, Nat.zero_add, not_false_eq_true, not_true_eq_false]; done) | (simp only [wk, wt, wl, ↓reduceIte, Nat.reduceEqDiff, Nat.reduceAdd, Nat.zero_add, not_false_eq_true, not_true_eq_false]; rfl)), (by first | rfl | (simp only [wk, wt, wl, ↓reduceIte, Nat.reduceEqDiff, Nat.reduceAdd, Nat.zero_add, not_false_eq_true, not_true_eq_false]; done) | (simp only [wk, wt, wl, ↓reduceIte, Nat.reduceEqDiff, Nat.reduceAdd, Nat.zero_add, not_false_eq_true, not_true_eq_false]; rfl)), by omega, by simpa [vI] using Own.nil0, fun y hy => by cases hy⟩ ?_
  rintro tm h' ⟨K, t0, t10, i, v, t11, t3, hi, O, hb⟩
  simp only [wk, wt, wl, ↓reduceIte, Nat.reduceEqDiff, Nat.reduceAdd, Nat.zero_add, not_false_eq_true, not_true_eq_false, t0, t10, t11, t3]
  refine condK_dec (fun hd => ?_) (fun hd => ?_)
  · simp only [wk, wt, wl, ↓reduceIte, Nat.reduceEqDiff, Nat.reduceAdd, Nat.zero_add, not_false_eq_true, not_true_eq_false, t0, t10, t11, t3]
    obtain ⟨v2, h2, e2, O2, C2, R2, ev, _⟩ := O.append1 (P := prog) (Ch.wf K) (Ch.le K) underlying24 elem21 fits21 (by decide) (by decide) (xs := [.int .i32 65533]) rfl (by omega)
    rw [e2]; clear e2
    have K2 := K.step C2 fun b hb => hb.2
    simp (disch := omega) only [wk, wt, wl, ↓reduceIte, Nat.reduceEqDiff, Nat.reduceAdd, Nat.zero_add, not_false_eq_true, not_true_eq_false, t0, t10, t11, IntWalk.i64_in, intOf_int]
    refine ⟨⟨K2, i + 1, v2, by simp, rfl, by omega, ?_, fun y hy => ?_⟩, by omega⟩
    · rw [List.replicate_succ', vI_append]; exact O2
    · rw [ev] at hy; simp only [blkOf, Option.some.injEq] at hy; have := Ch.le K; omega
  · obtain rfl : i = s.length := by omega
    have V2 := Keeps.var H K V
    simp only [wk, wt, wl, ↓reduceIte, Nat.reduceEqDiff, Nat.reduceAdd, Nat.zero_add, not_false_eq_true, not_true_eq_false, t0, t3]
    obtain ⟨h3, e3, V3, C3, z3⟩ := V2.store1 (P := prog) (t := 22) (v := .slice none 0 0) (i := 0) (Ch.wf K) asz22 (by simp) rfl
    rw [e3]; clear e3
    simp only [wk, wt, wl, ↓reduceIte, Nat.reduceEqDiff, Nat.reduceAdd, Nat.zero_add, not_false_eq_true, not_true_eq_false, t3]
    have C := K.ch C3 fun b hb => by omega
    exact ⟨Ch.own C3 O fun b hb' e => by have := hb b hb'; omega, hb, ⟨_, V3, Rd.nil0⟩, C⟩
theorem feed_ok {f : Nat} {s b : List Int} {bv : Value} {h : Heap} (F : FD h f s) (hB : RdI prog h .u8 bv b) (hsB : ∀ x, x ∈ s → isB x) (hbB : ∀ x, x ∈ b → isB x) (hs : s.length ≤ 1000) (hb : b.length ≤ 900000000) :
    ACalls prog 23 #[.pointer (some ⟨f, 0, none⟩), bv] h (fun v h' => ∃ l s', Fed (s ++ b) l s' ∧ Own prog h.size h' 1 v l.length (vI l) ∧ (∀ y, blkOf v = some y → h.size ≤ y) ∧ FD h' f s' ∧ Ch (fun y => y = f) h h') := by
  refine acalls_of_W' func23 rfl (by kernel_rfl) (by kernel_rfl) (by simp [ntmps23]) ?_
  intro H
  have hf := F.lt H
  obtain ⟨rv, V, R⟩ := F
  have W0 := V.load1 (P := prog) (t := 22) underlying22 rfl (i := 0)
  simp only [List.getElem?_cons_zero] at W0
  simp only [wk, wt, wl, ↓reduceIte, Nat.reduceEqDiff, Nat.reduceAdd, Nat.zero_add, not_false_eq_true, not_true_eq_false, ptr_some (P := prog) underlying37, W0, RdI.len R underlying22]
  refine condK_dec (fun hc => ?_) (fun hc => ?_)
  · simp only [wk, wt, wl, ↓reduceIte, Nat.reduceEqDiff, Nat.reduceAdd, Nat.zero_add, not_false_eq_true, not_true_eq_false, build0 (P := prog) (t := 22) underlying22 asz5]
    have N1 := Keeps.new H 5 []
    have O1 : Own prog h.size (h.new 5 []) 1 (.slice (some ⟨h.size, 0, none⟩) 0 1) 0 [] := Own.new H (Nat.le_refl _) asz5 rfl
    have V1 := Keeps.var H N1 V
    have W1 := V1.load1 (P := prog) (t := 22) underlying22 rfl (i := 0)
    simp only [List.getElem?_cons_zero] at W1
    simp only [wk, wt, wl, ↓reduceIte, Nat.reduceEqDiff, Nat.reduceAdd, Nat.zero_add, not_false_eq_true, not_true_eq_false, W1]
    obtain ⟨v2, h2, e2, O2, R2, C2, _⟩ := O1.appendRd (P := prog) (Ch.wf N1) (Ch.le N1) underlying22 underlying22 rfl elem5 fits5 (by decide) (R.keeps N1) (by omega)
    rw [e2]; clear e2
    have N2 := N1.step C2 fun b hb => hb.2
    simp only [wk, wt, wl, ↓reduceIte, Nat.reduceEqDiff, Nat.reduceAdd, Nat.zero_add, not_false_eq_true, not_true_eq_false]
    obtain ⟨av, h3, e3, O3, R3, C3, _⟩ := O2.appendRd (P := prog) (Ch.wf N2) (Ch.le N2) underlying22 underlying22 rfl elem5 fits5 (by decide) (hB.keeps N2) (by omega)
    rw [e3]; clear e3
    have N3 := N2.step C3 fun b hb => hb.2
    have RA0 : RdI prog h3 .u8 av (s ++ b) := by
      have := O3.1
      simpa [RdI] using this
    clear O1 O2 O3 R2 R3 C2 C3 N1 N2 V1 W1
    simp only [wk, wt, wl, ↓reduceIte, Nat.reduceEqDiff, Nat.reduceAdd, Nat.zero_add, not_false_eq_true, not_true_eq_false]
    have hallB : ∀ x, x ∈ s ++ b → isB x := fun x hx => (List.mem_append.1 hx).elim (hsB x) (hbB x)
    have hallL : (s ++ b).length ≤ 1000000000 := by simp only [List.length_append]; omega
    refine W_loop (fun tm h' => Keeps h h' ∧ tm 0 = .pointer (some ⟨f, 0, none⟩) ∧ tm 5 = av ∧ RdI prog h' .u8 (av) (s ++ b) ∧ ∃ (i : Nat) (v : Value) (l : List Int), tm 7 = .int .i64 i ∧ tm 6 = v ∧ i ≤ (s ++ b).length ∧ l.length ≤ i ∧ Own prog h.size h' 1 v l.length (vI l) ∧ (∀ y, blkOf v = some y → h.size ≤ y) ∧ ∀ l' s', Fed ((s ++ b).drop i) l' s' → Fed (s ++ b) (l ++ l') s') (fun tm _ => ((s ++ b).length - intOf (tm 7)).toNat)
      ⟨N3, (by first | rfl | (simp only [wk, wt, wl, ↓reduceIte, Nat.reduceEqDiff, Nat.reduceAdd, Nat.zero_add, not_false_eq_true, not_true_eq_false]; done) | (simp only [wk, wt, wl, ↓reduceIte, Nat.reduceEqDiff, Nat.reduceAdd, Nat.zero_add, not_false_eq_true, not_true_eq_false]; rfl)), (by first | rfl | (simp only [wk, wt, wl, ↓reduceIte, Nat.reduceEqDiff, Nat.reduceAdd, Nat.zero_add, not_false_eq_true, not_true_eq_false]; done) | (simp only [wk, wt, wl, ↓reduceIte, Nat.reduceEqDiff, Nat.reduceAdd, Nat.zero_add, not_false_eq_true, not_true_eq_false]; rfl)), RA0, 0, .slice none 0 0, [], (by first | rfl | (simp only [wk, wt, wl, ↓reduceIte, Nat.reduceEqDiff, Nat.reduceAdd, Nat.zero_add, not_false_eq_true, not_true_eq_false]; done) | (simp only [wk, wt, wl, ↓reduceIte, Nat.reduceEqDiff, Nat.reduceAdd, Nat.zero_add, not_false_eq_true, not_true_eq_false]; rfl)), (by first | rfl | (simp only [wk, wt, wl, ↓reduceIte, Nat.reduceEqDiff, Nat.reduceAdd, Nat.zero_add, not_false_eq_true, not_true_eq_false]; done) | (simp only [wk, wt, wl, ↓reduceIte, Nat.reduceEqDiff, Nat.reduceAdd, Nat.zero_add, not_false_eq_true, not_true_eq_false]; rfl)), by omega, by simp, by simpa [vI] using Own.nil0, (fun y hy => by cases hy), fun l' s' g => by simpa using g⟩ ?_
    rintro tm h' ⟨K, t0, t5, RA, i, v, l, t7, t6, hi, hli, O, hv, hfed⟩
    have RL := RA.partLo hi
    have hdB : ∀ x, x ∈ (s ++ b).drop i → isB x := fun x hx => hallB x (List.mem_of_mem_drop hx)
    simp (disch := omega) only [wk, wt, wl, ↓reduceIte, Nat.reduceEqDiff, Nat.reduceAdd, Nat.zero_add, not_false_eq_true, not_true_eq_false, t0, t5, t6, t7, Rd.sliceLo RA underlying22 asz5 (q := .i64) (i := (i : Int)), Int.toNat_natCast]
    refine (next_ok RL hdB (by rw [List.length_drop]; omega)).use_pure ?_
    cases hn : nextZ ((s ++ b).drop i) with
    | some p =>
      obtain ⟨r, n⟩ := p
      have hl := nextZ_le hn
      rw [List.length_drop] at hl
      simp only [nextT, hn]
      simp only [wk, wt, wl, ↓reduceIte, Nat.reduceEqDiff, Nat.reduceAdd, Nat.zero_add, not_false_eq_true, not_true_eq_false, t0, t5, t6, t7]
      obtain ⟨v2, h2, e2, O2, C2, R2, ev, _⟩ := O.append1 (P := prog) (Ch.wf K) (Ch.le K) underlying24 elem21 fits21 (by decide) (by decide) (xs := [.int .i32 r]) rfl (by omega)
      rw [e2]; clear e2
      have K2 := K.step C2 fun b hb => hb.2
      have RA2 := Rd.reads RA C2.le R2
      simp (disch := omega) only [wk, wt, wl, ↓reduceIte, Nat.reduceEqDiff, Nat.reduceAdd, Nat.zero_add, not_false_eq_true, not_true_eq_false, t0, t5, t7, IntWalk.i64_in, intOf_int]
      refine ⟨⟨K2, RA2, i + n, v2, l ++ [r], by simp, rfl, by omega, by simp only [List.length_append, List.length_singleton]; omega, ?_, fun y hy => ?_, fun l' s' g => ?_⟩, by omega⟩
      · rw [vI_append, List.length_append]; exact O2
      · rw [ev] at hy; simp only [blkOf, Option.some.injEq] at hy; have := Ch.le K; omega
      · rw [List.append_assoc]; exact hfed _ _ (.step hn (by rw [List.drop_drop]; exact g))
    | none =>
      have hfin : Fed (s ++ b) l ((s ++ b).drop i) := by simpa using hfed _ _ (.done hn)
      simp only [nextT, hn]
      simp (disch := omega) only [wk, wt, wl, ↓reduceIte, Nat.reduceEqDiff, Nat.reduceAdd, Nat.zero_add, not_false_eq_true, not_true_eq_false, t0, t5, t6, t7, build0 (P := prog) (t := 22) underlying22 asz5]
      have N1 := Keeps.new (Ch.wf K) 5 []
      have RA1 := RA.keeps N1
      have O1 : Own prog h'.size (h'.new 5 []) 1 (.slice (some ⟨h'.size, 0, none⟩) 0 1) 0 [] := Own.new (Ch.wf K) (Nat.le_refl _) asz5 rfl
      have RL1 := RL.keeps N1
      simp (disch := omega) only [wk, wt, wl, ↓reduceIte, Nat.reduceEqDiff, Nat.reduceAdd, Nat.zero_add, not_false_eq_true, not_true_eq_false, Rd.sliceLo RA1 underlying22 asz5 (q := .i64) (i := (i : Int)), Int.toNat_natCast]
      obtain ⟨v2, h2, e2, O2, R2, C2, hv2⟩ := O1.appendRd (P := prog) (Ch.wf N1) (Ch.le N1) underlying22 underlying22 rfl elem5 fits5 (by decide) RL1 (by rw [List.length_drop]; omega)
      have hb2 : ∀ y, blkOf v2 = some y → h.size ≤ y := fun y hy => by
        have l1 := Ch.le N1
        have l2 := Ch.le K
        rcases hv2 with e | e | e
        · rw [e] at hy; simp only [blkOf, Option.some.injEq] at hy; omega
        · rw [e] at hy; cases hy
        · rw [e] at hy; simp only [blkOf, Option.some.injEq] at hy; omega
      rw [e2]; clear e2
      have N2 := N1.step C2 fun b hb => hb.2
      have K2 := K.trans N2
      have V2 := Keeps.var H K2 V
      have hrv : RdI prog h2 .u8 v2 ((s ++ b).drop i) := by
        have := O2.1
        simpa [RdI] using this
      simp only [wk, wt, wl, ↓reduceIte, Nat.reduceEqDiff, Nat.reduceAdd, Nat.zero_add, not_false_eq_true, not_true_eq_false, t0]
      obtain ⟨h3, e3, V3, C3, z3⟩ := V2.store1 (P := prog) (t := 22) (v := v2) (i := 0) (Ch.wf K2) asz22 (by simp) hrv.one
      rw [e3]; clear e3
      simp only [wk, wt, wl, ↓reduceIte, Nat.reduceEqDiff, Nat.reduceAdd, Nat.zero_add, not_false_eq_true, not_true_eq_false, t6]
      have C := K2.ch C3 fun b hb => by omega
      have O6 := O.keeps N2
      refine ⟨l, (s ++ b).drop i, hfin, Ch.own C3 O6 fun b hb' e => by have := hv b hb'; omega, hv, ⟨v2, V3, Ch.rd C3 hrv fun y hy e => ?_⟩, C⟩
      have := hb2 y hy; omega
  · have hs0 : s = [] := List.eq_nil_of_length_eq_zero (by omega)
    have RA0 : RdI prog h .u8 bv (s ++ b) := by rw [hs0]; exact hB
    simp only [wk, wt, wl, ↓reduceIte, Nat.reduceEqDiff, Nat.reduceAdd, Nat.zero_add, not_false_eq_true, not_true_eq_false]
    have hallB : ∀ x, x ∈ s ++ b → isB x := fun x hx => (List.mem_append.1 hx).elim (hsB x) (hbB x)
    have hallL : (s ++ b).length ≤ 1000000000 := by simp only [List.length_append]; omega
    refine W_loop (fun tm h' => Keeps h h' ∧ tm 0 = .pointer (some ⟨f, 0, none⟩) ∧ tm 5 = bv ∧ RdI prog h' .u8 (bv) (s ++ b) ∧ ∃ (i : Nat) (v : Value) (l : List Int), tm 7 = .int .i64 i ∧ tm 6 = v ∧ i ≤ (s ++ b).length ∧ l.length ≤ i ∧ Own prog h.size h' 1 v l.length (vI l) ∧ (∀ y, blkOf v = some y → h.size ≤ y) ∧ ∀ l' s', Fed ((s ++ b).drop i) l' s' → Fed (s ++ b) (l ++ l') s') (fun tm _ => ((s ++ b).length - intOf (tm 7)).toNat)
      ⟨Keeps.refl H, (by first | rfl | (simp only [wk, wt, wl, ↓reduceIte, Nat.reduceEqDiff, Nat.reduceAdd, Nat.zero_add, not_false_eq_true, not_true_eq_false]; done) | (simp only [wk, wt, wl, ↓reduceIte, Nat.reduceEqDiff, Nat.reduceAdd, Nat.zero_add, not_false_eq_true, not_true_eq_false]; rfl)), (by first | rfl | (simp only [wk, wt, wl, ↓reduceIte, Nat.reduceEqDiff, Nat.reduceAdd, Nat.zero_add, not_false_eq_true, not_true_eq_false]; done) | (simp only [wk, wt, wl, ↓reduceIte, Nat.reduceEqDiff, Nat.reduceAdd, Nat.zero_add, not_false_eq_true, not_true_eq_false]; rfl)), RA0, 0, .slice none 0 0, [], (by first | rfl | (simp only [wk, wt, wl, ↓reduceIte, Nat.reduceEqDiff, Nat.reduceAdd, Nat.zero_add, not_false_eq_true, not_true_eq_false]; done) | (simp only [wk, wt, wl, ↓reduceIte, Nat.reduceEqDiff, Nat.reduceAdd, Nat.zero_add, not_false_eq_true, not_true_eq_false]; rfl)), (by first | rfl | (simp only [wk, wt, wl, ↓reduceIte, Nat.reduceEqDiff, Nat.reduceAdd, Nat.zero_add, not_false_eq_true, not_true_eq_false]; done) | (simp only [wk, wt, wl, ↓reduceIte, Nat.reduceEqDiff, Nat.reduceAdd, Nat.zero_add, not_false_eq_true, not_true_eq_false]; rfl)), by omega, by simp, by simpa [vI] using Own.nil0, (fun y hy => by cases hy), fun l' s' g => by simpa using g⟩ ?_
    rintro tm h' ⟨K, t0, t5, RA, i, v, l, t7, t6, hi, hli, O, hv, hfed⟩
    have RL := RA.partLo hi
    have hdB : ∀ x, x ∈ (s ++ b).drop i → isB x := fun x hx => hallB x (List.mem_of_mem_drop hx)
    simp (disch := omega) only [wk, wt, wl, ↓reduceIte, Nat.reduceEqDiff, Nat.reduceAdd, Nat.zero_add, not_false_eq_true, not_true_eq_false, t0, t5, t6, t7, Rd.sliceLo RA underlying22 asz5 (q := .i64) (i := (i : Int)), Int.toNat_natCast]
    refine (next_ok RL hdB (by rw [List.length_drop]; omega)).use_pure ?_
    cases hn : nextZ ((s ++ b).drop i) with
    | some p =>
      obtain ⟨r, n⟩ := p
      have hl := nextZ_le hn
      rw [List.length_drop] at hl
      simp only [nextT, hn]
      simp only [wk, wt, wl, ↓reduceIte, Nat.reduceEqDiff, Nat.reduceAdd, Nat.zero_add, not_false_eq_true, not_true_eq_false, t0, t5, t6, t7]
      obtain ⟨v2, h2, e2, O2, C2, R2, ev, _⟩ := O.append1 (P := prog) (Ch.wf K) (Ch.le K) underlying24 elem21 fits21 (by decide) (by decide) (xs := [.int .i32 r]) rfl (by omega)
      rw [e2]; clear e2
      have K2 := K.step C2 fun b hb => hb.2
      have RA2 := Rd.reads RA C2.le R2
      simp (disch := omega) only [wk, wt, wl, ↓reduceIte, Nat.reduceEqDiff, Nat.reduceAdd, Nat.zero_add, not_false_eq_true, not_true_eq_false, t0, t5, t7, IntWalk.i64_in, intOf_int]
      refine ⟨⟨K2, RA2, i + n, v2, l ++ [r], by simp, rfl, by omega, by simp only [List.length_append, List.length_singleton]; omega, ?_, fun y hy => ?_, fun l' s' g => ?_⟩, by omega⟩
      · rw [vI_append, List.length_append]; exact O2
      · rw [ev] at hy; simp only [blkOf, Option.some.injEq] at hy; have := Ch.le K; omega
      · rw [List.append_assoc]; exact hfed _ _ (.step hn (by rw [List.drop_drop]; exact g))
    | none =>
      have hfin : Fed (s ++ b) l ((s ++ b).drop i) := by simpa using hfed _ _ (.done hn)
      simp only [nextT, hn]
      simp (disch := omega) only [wk, wt, wl, ↓reduceIte, Nat.reduceEqDiff, Nat.reduceAdd, Nat.zero_add, not_false_eq_true, not_true_eq_false, t0, t5, t6, t7, build0 (P := prog) (t := 22) underlying22 asz5]
      have N1 := Keeps.new (Ch.wf K) 5 []
      have RA1 := RA.keeps N1
      have O1 : Own prog h'.size (h'.new 5 []) 1 (.slice (some ⟨h'.size, 0, none⟩) 0 1) 0 [] := Own.new (Ch.wf K) (Nat.le_refl _) asz5 rfl
      have RL1 := RL.keeps N1
      simp (disch := omega) only [wk, wt, wl, ↓reduceIte, Nat.reduceEqDiff, Nat.reduceAdd, Nat.zero_add, not_false_eq_true, not_true_eq_false, Rd.sliceLo RA1 underlying22 asz5 (q := .i64) (i := (i : Int)), Int.toNat_natCast]
      obtain ⟨v2, h2, e2, O2, R2, C2, hv2⟩ := O1.appendRd (P := prog) (Ch.wf N1) (Ch.le N1) underlying22 underlying22 rfl elem5 fits5 (by decide) RL1 (by rw [List.length_drop]; omega)
      have hb2 : ∀ y, blkOf v2 = some y → h.size ≤ y := fun y hy => by
        have l1 := Ch.le N1
        have l2 := Ch.le K
        rcases hv2 with e | e | e
        · rw [e] at hy; simp only [blkOf, Option.some.injEq] at hy; omega
        · rw [e] at hy; cases hy
        · rw [e] at hy; simp only [blkOf, Option.some.injEq] at hy; omega
      rw [e2]; clear e2
      have N2 := N1.step C2 fun b hb => hb.2
      have K2 := K.trans N2
      have V2 := Keeps.var H K2 V
      have hrv : RdI prog h2 .u8 v2 ((s ++ b).drop i) := by
        have := O2.1
        simpa [RdI] using this
      simp only [wk, wt, wl, ↓reduceIte, Nat.reduceEqDiff, Nat.reduceAdd, Nat.zero_add, not_false_eq_true, not_true_eq_false, t0]
      obtain ⟨h3, e3, V3, C3, z3⟩ := V2.store1 (P := prog) (t := 22) (v := v2) (i := 0) (Ch.wf K2) asz22 (by simp) hrv.one
      rw [e3]; clear e3
      simp only [wk, wt, wl, ↓reduceIte, Nat.reduceEqDiff, Nat.reduceAdd, Nat.zero_add, not_false_eq_true, not_true_eq_false, t6]
      have C := K2.ch C3 fun b hb => by omega
      have O6 := O.keeps N2
      refine ⟨l, (s ++ b).drop i, hfin, Ch.own C3 O6 fun b hb' e => by have := hv b hb'; omega, hv, ⟨v2, V3, Ch.rd C3 hrv fun y hy e => ?_⟩, C⟩
      have := hb2 y hy; omega
theorem decode_ok {b : List Int} {bv : Value} {h : Heap} (hB : RdI prog h .u8 bv b) (hbB : ∀ x, x ∈ b → isB x) (hb : b.length ≤ 900000000) :
    ACalls prog 11 #[bv] h (fun v h' => ∃ l, Dec b l ∧ Own prog h.size h' 1 v l.length (vI l) ∧ (∀ y, blkOf v = some y → h.size ≤ y) ∧ Keeps h h') := by
  refine acalls_of_W' func11 rfl (by kernel_rfl) (by kernel_rfl) (by simp [ntmps11]) ?_
  intro H
  simp only [wk, wt, wl, ↓reduceIte, Nat.reduceEqDiff, Nat.reduceAdd, Nat.zero_add, not_false_eq_true, not_true_eq_false]
  refine newFeeder_ok.use_pure ?_
  have N1 := Keeps.new H 49 [.slice none 0 0]
  have F1 : FD (h.new 49 [.slice none 0 0]) h.size [] := ⟨_, Var.new H, Rd.nil0⟩
  simp only [wk, wt, wl, ↓reduceIte, Nat.reduceEqDiff, Nat.reduceAdd, Nat.zero_add, not_false_eq_true, not_true_eq_false]
  refine (feed_ok F1 (hB.keeps N1) (fun x hx => by cases hx) hbB (by simp) hb).use ?_
  rintro v2 h2 ⟨l, s, hfed, O2, hv2, F2, C2⟩
  have K2 := N1.step C2 fun y e => by omega
  have hbd := hfed.bound
  simp only [List.nil_append] at hfed hbd
  have l1 := Ch.le N1
  have z1 : (h.new 49 [Value.slice none 0 0]).size = h.size + 1 := rfl
  simp only [wk, wt, wl, ↓reduceIte, Nat.reduceEqDiff, Nat.reduceAdd, Nat.zero_add, not_false_eq_true, not_true_eq_false]
  refine (flush_ok F2 (by omega)).use ?_
  rintro v3 h3 ⟨O3, hv3, F3, C3⟩
  have K3 := K2.step C3 fun y e => by omega
  have O2' := (Ch.own C3 O2 fun y hy e => by have := hv2 y hy; omega).base (B' := h.size) (by omega)
  simp only [wk, wt, wl, ↓reduceIte, Nat.reduceEqDiff, Nat.reduceAdd, Nat.zero_add, not_false_eq_true, not_true_eq_false]
  obtain ⟨v4, h4, e4, O4, R4, C4, hv4⟩ := O2'.appendRd (P := prog) (Ch.wf K3) (Ch.le K3) underlying24 underlying24 rfl elem21 fits21 (by decide) O3.1 (by omega)
  rw [e4]; clear e4
  have K4 := K3.step C4 fun y hy => hy.2
  simp only [wk, wt, wl, ↓reduceIte, Nat.reduceEqDiff, Nat.reduceAdd, Nat.zero_add, not_false_eq_true, not_true_eq_false]
  refine ⟨l ++ List.replicate s.length 65533, ⟨l, s, hfed, rfl⟩, ?_, fun y hy => ?_, K4⟩
  · rw [List.length_append, List.length_replicate, vI_append]; exact O4
  · rcases hv4 with e | e | e
    · rw [e] at hy; have := hv2 y hy; omega
    · rw [e] at hy; cases hy
    · rw [e] at hy; simp only [blkOf, Option.some.injEq] at hy; have := Ch.le K3; omega
end Go.Proofs.Ytgllmnckphbkeaa.Am
