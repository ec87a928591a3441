/- A statement of the first chapter, told of abstract memory: UtfFeeds answers true. -/
import Derived.Test.YtgllmnckphbkeaaVn
set_option linter.unusedSimpArgs false
set_option linter.unusedVariables false
set_option maxHeartbeats 4000000
set_option maxRecDepth 20000
namespace Go.Proofs.Ytgllmnckphbkeaa.Am
open Go Go.RowKit Go.Proofs.Try
theorem abuiltin_min {k : IntKind} {ts : Array TypeId} {x y : Int} : abuiltin prog .min ts #[.int k x, .int k y] = some (.int k (if y < x then y else x)) := by
  simp [abuiltin, amm]
/-- What a feed leaves of the law's own row and feeder. -/
structure FS (h0 h : Heap) (f : Nat) (b : List Int) (i : Nat) (v : Value) (l s : List Int) : Prop where
  keeps : Keeps h0 h
  own : Own prog h0.size h 1 v l.length (vI l)
  apart : ∀ y, blkOf v = some y → f < y
  fd : FD h f s
  fed : Fed (b.take i) l s
  le : i ≤ b.length
theorem FS.lens {h0 h : Heap} {f : Nat} {b : List Int} {i : Nat} {v : Value} {l s : List Int} (S : FS h0 h f b i v l s) : l.length + s.length ≤ i ∧ s.length ≤ 3 ∧ ∀ x, x ∈ s → x ∈ b := by
  have := S.fed.bound
  rw [List.length_take] at this
  exact ⟨by omega, this.2.1, fun x hx => List.mem_of_mem_take (this.2.2.1 x hx)⟩
theorem FS.append {h0 h h2 : Heap} {f : Nat} {b : List Int} {i n : Nat} {v v2 : Value} {l s l2 s2 : List Int} (S : FS h0 h f b i v l s) (hf : h0.size ≤ f) (hn : i + n ≤ b.length) (hb : b.length ≤ 100000000)
    (hfed : Fed (s ++ (b.drop i).take n) l2 s2) (O2 : Own prog h.size h2 1 v2 l2.length (vI l2)) (F2 : FD h2 f s2) (C2 : Ch (fun y => y = f) h h2) :
    ∃ v3 h3, aappend prog h2 24 24 v v2 = some (v3, h3) ∧ FS h0 h3 f b (i + n) v3 (l ++ l2) s2 ∧ ∀ {w : Value} {k : IntKind} {xs : List Int}, RdI prog h0 k w xs → RdI prog h3 k w xs := by
  have hl := S.lens
  have K2 := S.keeps.step C2 fun y e => by omega
  have O1 := Ch.own C2 S.own fun y hy e => by have := S.apart y hy; omega
  have hl2 := hfed.bound
  simp only [List.length_append, List.length_take, List.length_drop] at hl2
  obtain ⟨v3, h3, e3, O3, R3, C3, hv3⟩ := O1.appendRd (P := prog) (Ch.wf K2) (Ch.le K2) underlying24 underlying24 rfl elem21 fits21 (by decide) O2.1 (by omega)
  have K3 := K2.step C3 fun y hy => hy.2
  have hf2 := FD.lt (Ch.wf K2) F2
  obtain ⟨rv, V, R⟩ := F2
  have V3 := Ch.var (Ch.wf K2) C3 V fun e => by have := S.apart f e.1; omega
  refine ⟨v3, h3, e3, ⟨K3, by rw [vI_append, List.length_append]; exact O3, fun y hy => ?_, ⟨rv, V3, Rd.reads R C3.le R3⟩, ?_, hn⟩, fun R => RdI.keeps R K3⟩
  · rcases hv3 with e | e | e
    · rw [e] at hy; exact S.apart y hy
    · rw [e] at hy; cases hy
    · rw [e] at hy; simp only [blkOf, Option.some.injEq] at hy; omega
  · have := S.fed.app (b := (b.drop i).take n) hfed
    rwa [← List.take_add] at this
theorem utfFeeds_law {a cv : Value} {b cs : List Int} {h : Heap} (ha : RdI prog h .u8 a b) (hc : RdI prog h .i64 cv cs) (hb : ∀ x, x ∈ b → isB x) (hl : b.length ≤ 100000000) :
    ACalls prog 8 #[a, cv] h (fun v h' => v = .bool true ∧ Keeps h h') := by
  refine acalls_of_W' func8 rfl (by kernel_rfl) (by kernel_rfl) (by simp [ntmps8]) ?_
  intro H
  simp only [wk, wt, wl, ↓reduceIte, Nat.reduceEqDiff, Nat.reduceAdd, Nat.zero_add, not_false_eq_true, not_true_eq_false]
  refine newFeeder_ok.use_pure ?_
  have N1 := Keeps.new H 49 [.slice none 0 0]
  have F1 : FD (h.new 49 [.slice none 0 0]) h.size [] := ⟨_, Var.new H, Rd.nil0⟩
  have S1 : FS h (h.new 49 [.slice none 0 0]) h.size b 0 (.slice none 0 0) [] [] := ⟨N1, by simpa [vI] using Own.nil0, (fun y hy => by cases hy), F1, by simpa using Fed.done rfl, Nat.zero_le _⟩
  simp only [wk, wt, wl, ↓reduceIte, Nat.reduceEqDiff, Nat.reduceAdd, Nat.zero_add, not_false_eq_true, not_true_eq_false, ptr_some (P := prog) underlying37]
  refine W_loop (fun tm h' => tm 0 = a ∧ tm 1 = cv ∧ tm 5 = .pointer (some ⟨h.size, 0, none⟩) ∧ ∃ (j i : Nat) (v : Value) (l s : List Int), tm 8 = .int .i64 j ∧ tm 7 = .int .i64 i ∧ tm 6 = v ∧ j ≤ 200 ∧ FS h h' h.size b i v l s) (fun tm _ => (200 - intOf (tm 8)).toNat)
    ⟨(by first | rfl | (simp only [wk, wt, wl, ↓reduceIte, Nat.reduceEqDiff, Nat.reduceAdd, Nat.zero_add, not_false_eq_true, not_true_eq_false]; done) | (simp only [wk, wt, wl, ↓reduceIte, Nat.reduceEqDiff, Nat.reduceAdd, Nat.zero_add, not_false_eq_true, not_true_eq_false]; rfl)), (by first | rfl | (simp only [wk, wt, wl, ↓reduceIte, Nat.reduceEqDiff, Nat.reduceAdd, Nat.zero_add, not_false_eq_true, not_true_eq_false]; done) | (simp only [wk, wt, wl, ↓reduceIte, Nat.reduceEqDiff, Nat.reduceAdd, Nat.zero_add, not_false_eq_true, not_true_eq_false]; rfl)), (by first | rfl | (simp only [wk, wt, wl, ↓reduceIte, Nat.reduceEqDiff, Nat.reduceAdd, Nat.zero_add, not_false_eq_true, not_true_eq_false]; done) | (simp only [wk, wt, wl, ↓reduceIte, Nat.reduceEqDiff, Nat.reduceAdd, Nat.zero_add, not_false_eq_true, not_true_eq_false]; rfl)), 0, 0, .slice none 0 0, [], [], (by first | rfl | (simp only [wk, wt, wl, ↓reduceIte, Nat.reduceEqDiff, Nat.reduceAdd, Nat.zero_add, not_false_eq_true, not_true_eq_false]; done) | (simp only [wk, wt, wl, ↓reduceIte, Nat.reduceEqDiff, Nat.reduceAdd, Nat.zero_add, not_false_eq_true, not_true_eq_false]; rfl)), (by first | rfl | (simp only [wk, wt, wl, ↓reduceIte, Nat.reduceEqDiff, Nat.reduceAdd, Nat.zero_add, not_false_eq_true, not_true_eq_false]; done) | (simp only [wk, wt, wl, ↓reduceIte, Nat.reduceEqDiff, Nat.reduceAdd, Nat.zero_add, not_false_eq_true, not_true_eq_false]; rfl)), (by first | rfl | (simp only [wk, wt, wl, ↓reduceIte, Nat.reduceEqDiff, Nat.reduceAdd, Nat.zero_add, not_false_eq_true, not_true_eq_false]; done) | (simp only [wk, wt, wl, ↓reduceIte, Nat.reduceEqDiff, Nat.reduceAdd, Nat.zero_add, not_false_eq_true, not_true_eq_false]; rfl)), by omega, S1⟩ ?_
  clear S1 F1 N1
  rintro tm h' ⟨t0, t1, t5, j, i, v, l, s, t8, t7, t6, hj, S⟩
  have ha' := ha.keeps S.keeps
  have hc' := hc.keeps S.keeps
  have hsl := S.lens
  have hle := S.le
  by_cases hgo : j < cs.length ∧ j < 200
  · obtain ⟨hj1, hj2⟩ := hgo
    have d1 : decide ((j : Int) < cs.length) = true := decide_eq_true (by omega)
    have d2 : decide ((j : Int) < 200) = true := decide_eq_true (by omega)
    have LX := RdI.at hc' (t := 3) underlying3 rfl hj1
    simp (disch := omega) only [wk, wt, wl, ↓reduceIte, Nat.reduceEqDiff, Nat.reduceAdd, Nat.zero_add, not_false_eq_true, not_true_eq_false, t0, t1, t5, t6, t7, t8, RdI.len hc' underlying36, d1, d2, RdI.index hc' underlying36 asz3 (q := .i64) (i := (j : Int)), Int.toNat_natCast, LX, abin_rem (P := prog)]
    have hm : (cs.getD j 0).tmod 7 < 7 := Int.tmod_lt_of_pos _ (by decide)
    generalize (cs.getD j 0).tmod 7 = y at hm
    have body : ∀ n : Int, 0 ≤ n → n < 7 → ∃ m : Nat, (if (b.length : Int) - i < n then (b.length : Int) - i else n) = (m : Int) ∧ i + m ≤ b.length := fun n h0 h1 => by
      by_cases hc : (b.length : Int) - i < n
      · rw [if_pos hc]; exact ⟨b.length - i, by omega, by omega⟩
      · rw [if_neg hc]; exact ⟨n.toNat, by omega, by omega⟩
    refine condK_dec (fun hy => ?_) (fun hy => ?_)
    · skip
      obtain ⟨m, hm1, hm2⟩ := body (0) (by omega) (by omega)
      simp (disch := omega) only [wk, wt, wl, ↓reduceIte, Nat.reduceEqDiff, Nat.reduceAdd, Nat.zero_add, not_false_eq_true, not_true_eq_false, t0, t1, t5, t6, t7, t8, RdI.len ha' underlying22, abuiltin_min, IntWalk.i64_in, hm1]
      have SL := Rd.slice2 ha' underlying22 asz5 (q := .i64) (q' := .i64) (i := (i : Int)) (j := (i : Int) + m) (by omega) (by omega) (by omega)
      have PT : RdI prog h' .u8 (sliceV a 1 (i : Int).toNat ((i : Int) + m).toNat) ((b.drop i).take m) := by
        have := RdI.part ha' (L := i) (H := i + m) (by omega) hm2
        rw [show i + m - i = m by omega] at this
        rw [show ((i : Int) + m).toNat = i + m by omega, Int.toNat_natCast]; exact this
      simp (disch := omega) only [wk, wt, wl, ↓reduceIte, Nat.reduceEqDiff, Nat.reduceAdd, Nat.zero_add, not_false_eq_true, not_true_eq_false, SL]
      refine (feed_ok S.fd PT (fun x hx => hb x (hsl.2.2 x hx)) (fun x hx => hb x (List.mem_of_mem_drop (List.mem_of_mem_take hx))) (by omega) (by rw [List.length_take]; omega)).use ?_
      rintro v2 h2 ⟨l2, s2, hfed, O2, hv2, F2, C2⟩
      obtain ⟨v3, h3, e3, S3, _⟩ := S.append (Nat.le_refl _) hm2 hl hfed O2 F2 C2
      have hs3 := S3.lens
      simp only [wk, wt, wl, ↓reduceIte, Nat.reduceEqDiff, Nat.reduceAdd, Nat.zero_add, not_false_eq_true, not_true_eq_false, t0, t1, t5, t6, t7, t8]
      rw [e3]; clear e3
      simp (disch := omega) only [wk, wt, wl, ↓reduceIte, Nat.reduceEqDiff, Nat.reduceAdd, Nat.zero_add, not_false_eq_true, not_true_eq_false, t0, t1, t5, t7, t8, IntWalk.i64_in]
      refine (held_ok S3.fd).use_pure ?_
      have d3 : decide ((s2.length : Int) < 0) = false := decide_eq_false (by omega)
      have d4 : decide (3 < (s2.length : Int)) = false := decide_eq_false (by omega)
      simp (disch := omega) only [wk, wt, wl, ↓reduceIte, Nat.reduceEqDiff, Nat.reduceAdd, Nat.zero_add, not_false_eq_true, not_true_eq_false, t0, t1, t5, t7, t8, d3]
      refine (held_ok S3.fd).use_pure ?_
      simp (disch := omega) only [wk, wt, wl, ↓reduceIte, Nat.reduceEqDiff, Nat.reduceAdd, Nat.zero_add, not_false_eq_true, not_true_eq_false, t0, t1, t5, t7, t8, d4, IntWalk.i64_in, intOf_int]
      exact ⟨⟨j + 1, i + m, v3, l ++ l2, s2, by simp, by simp, rfl, by omega, S3⟩, by omega⟩
    · skip
      obtain ⟨m, hm1, hm2⟩ := body (y) (by omega) (by omega)
      simp (disch := omega) only [wk, wt, wl, ↓reduceIte, Nat.reduceEqDiff, Nat.reduceAdd, Nat.zero_add, not_false_eq_true, not_true_eq_false, t0, t1, t5, t6, t7, t8, RdI.len ha' underlying22, abuiltin_min, IntWalk.i64_in, hm1]
      have SL := Rd.slice2 ha' underlying22 asz5 (q := .i64) (q' := .i64) (i := (i : Int)) (j := (i : Int) + m) (by omega) (by omega) (by omega)
      have PT : RdI prog h' .u8 (sliceV a 1 (i : Int).toNat ((i : Int) + m).toNat) ((b.drop i).take m) := by
        have := RdI.part ha' (L := i) (H := i + m) (by omega) hm2
        rw [show i + m - i = m by omega] at this
        rw [show ((i : Int) + m).toNat = i + m by omega, Int.toNat_natCast]; exact this
      simp (disch := omega) only [wk, wt, wl, ↓reduceIte, Nat.reduceEqDiff, Nat.reduceAdd, Nat.zero_add, not_false_eq_true, not_true_eq_false, SL]
      refine (feed_ok S.fd PT (fun x hx => hb x (hsl.2.2 x hx)) (fun x hx => hb x (List.mem_of_mem_drop (List.mem_of_mem_take hx))) (by omega) (by rw [List.length_take]; omega)).use ?_
      rintro v2 h2 ⟨l2, s2, hfed, O2, hv2, F2, C2⟩
      obtain ⟨v3, h3, e3, S3, _⟩ := S.append (Nat.le_refl _) hm2 hl hfed O2 F2 C2
      have hs3 := S3.lens
      simp only [wk, wt, wl, ↓reduceIte, Nat.reduceEqDiff, Nat.reduceAdd, Nat.zero_add, not_false_eq_true, not_true_eq_false, t0, t1, t5, t6, t7, t8]
      rw [e3]; clear e3
      simp (disch := omega) only [wk, wt, wl, ↓reduceIte, Nat.reduceEqDiff, Nat.reduceAdd, Nat.zero_add, not_false_eq_true, not_true_eq_false, t0, t1, t5, t7, t8, IntWalk.i64_in]
      refine (held_ok S3.fd).use_pure ?_
      have d3 : decide ((s2.length : Int) < 0) = false := decide_eq_false (by omega)
      have d4 : decide (3 < (s2.length : Int)) = false := decide_eq_false (by omega)
      simp (disch := omega) only [wk, wt, wl, ↓reduceIte, Nat.reduceEqDiff, Nat.reduceAdd, Nat.zero_add, not_false_eq_true, not_true_eq_false, t0, t1, t5, t7, t8, d3]
      refine (held_ok S3.fd).use_pure ?_
      simp (disch := omega) only [wk, wt, wl, ↓reduceIte, Nat.reduceEqDiff, Nat.reduceAdd, Nat.zero_add, not_false_eq_true, not_true_eq_false, t0, t1, t5, t7, t8, d4, IntWalk.i64_in, intOf_int]
      exact ⟨⟨j + 1, i + m, v3, l ++ l2, s2, by simp, by simp, rfl, by omega, S3⟩, by omega⟩
  · by_cases hj1 : j < cs.length
    · have d1 : decide ((j : Int) < cs.length) = true := decide_eq_true (by omega)
      have d2 : decide ((j : Int) < 200) = false := decide_eq_false (by omega)
      simp (disch := omega) only [wk, wt, wl, ↓reduceIte, Nat.reduceEqDiff, Nat.reduceAdd, Nat.zero_add, not_false_eq_true, not_true_eq_false, t0, t1, t5, t6, t7, t8, RdI.len hc' underlying36, d1, d2]
      have hbi : (b.drop i).take (b.length - i) = b.drop i := List.take_of_length_le (by rw [List.length_drop]; omega)
      have PT := RdI.partLo ha' hle
      simp (disch := omega) only [wk, wt, wl, ↓reduceIte, Nat.reduceEqDiff, Nat.reduceAdd, Nat.zero_add, not_false_eq_true, not_true_eq_false, t0, t1, t5, t6, t7, t8, Rd.sliceLo ha' underlying22 asz5 (q := .i64) (i := (i : Int)), Int.toNat_natCast]
      refine (feed_ok S.fd PT (fun x hx => hb x (hsl.2.2 x hx)) (fun x hx => hb x (List.mem_of_mem_drop hx)) (by omega) (by rw [List.length_drop]; omega)).use ?_
      rintro v2 h2 ⟨l2, s2, hfed, O2, hv2, F2, C2⟩
      rw [← hbi] at hfed
      obtain ⟨v3, h3, e3, S3, _⟩ := S.append (Nat.le_refl _) (by omega) hl hfed O2 F2 C2
      have hs3 := S3.lens
      simp only [wk, wt, wl, ↓reduceIte, Nat.reduceEqDiff, Nat.reduceAdd, Nat.zero_add, not_false_eq_true, not_true_eq_false, t0, t1, t5, t6, t7, t8]
      rw [e3]; clear e3
      simp (disch := omega) only [wk, wt, wl, ↓reduceIte, Nat.reduceEqDiff, Nat.reduceAdd, Nat.zero_add, not_false_eq_true, not_true_eq_false, t0, t1, t5, t7, t8, IntWalk.i64_in]
      refine (held_ok S3.fd).use_pure ?_
      simp (disch := omega) only [wk, wt, wl, ↓reduceIte, Nat.reduceEqDiff, Nat.reduceAdd, Nat.zero_add, not_false_eq_true, not_true_eq_false, t0, t1, t5, t7, t8]
      refine (flush_ok S3.fd (by omega)).use ?_
      rintro v4 h4 ⟨O4, hv4, F4, C4⟩
      have K4 := S3.keeps.step C4 fun y e => by omega
      have L4 : abuiltin prog .len #[24] #[v4] = some (.int .i64 s2.length) := Rd.len O4.1 underlying24
      simp (disch := omega) only [wk, wt, wl, ↓reduceIte, Nat.reduceEqDiff, Nat.reduceAdd, Nat.zero_add, not_false_eq_true, not_true_eq_false, t0, t1, t5, t7, t8, L4, decide_true]
      refine (held_ok F4).use_pure ?_
      simp (disch := omega) only [wk, wt, wl, ↓reduceIte, Nat.reduceEqDiff, Nat.reduceAdd, Nat.zero_add, not_false_eq_true, not_true_eq_false, t0, t1, t5, t7, t8, List.length_nil, Int.cast_ofNat_Int, decide_true]
      have O34 := Ch.own C4 S3.own fun y hy e => by have := S3.apart y hy; omega
      obtain ⟨v5, h5, e5, O5, _, C5, _⟩ := O34.appendRd (P := prog) (Ch.wf K4) (Ch.le K4) underlying24 underlying24 rfl elem21 fits21 (by decide) O4.1 (by omega)
      rw [e5]; clear e5
      have K5 := K4.step C5 fun y hy => hy.2
      simp (disch := omega) only [wk, wt, wl, ↓reduceIte, Nat.reduceEqDiff, Nat.reduceAdd, Nat.zero_add, not_false_eq_true, not_true_eq_false, t0, t1, t5, t7, t8]
      refine (refDecode_ok (ha.keeps K5) hb (by omega)).use ?_
      rintro v6 h6 ⟨l', hr, R6, _, K6⟩
      have hdec : Dec b ((l ++ l2) ++ List.replicate s2.length 65533) := ⟨l ++ l2, s2, by
        have := S3.fed
        rwa [List.take_of_length_le (by omega)] at this, rfl⟩
      obtain rfl := hdec.rdec.det hr
      have R5 : RdI prog h6 .i32 v5 (l ++ l2 ++ List.replicate s2.length 65533) := RdI.keeps (Rd.toI O5.1 (by simp; omega) (by simp [vI])) K6
      simp (disch := omega) only [wk, wt, wl, ↓reduceIte, Nat.reduceEqDiff, Nat.reduceAdd, Nat.zero_add, not_false_eq_true, not_true_eq_false]
      refine (runes_ok R5 R6 (by simp only [List.length_append, List.length_replicate] at hs3 ⊢; omega)).use_pure ?_
      simp (disch := omega) only [wk, wt, wl, ↓reduceIte, Nat.reduceEqDiff, Nat.reduceAdd, Nat.zero_add, not_false_eq_true, not_true_eq_false, decide_true]
      refine awakeU_ok.use ?_
      rintro _ h9 ⟨rfl, K9⟩
      simp only [wk, wt, wl, ↓reduceIte, Nat.reduceEqDiff, Nat.reduceAdd, Nat.zero_add, not_false_eq_true, not_true_eq_false]
      exact (K5.trans K6).trans K9
    · have d1 : decide ((j : Int) < cs.length) = false := decide_eq_false (by omega)
      simp (disch := omega) only [wk, wt, wl, ↓reduceIte, Nat.reduceEqDiff, Nat.reduceAdd, Nat.zero_add, not_false_eq_true, not_true_eq_false, t0, t1, t5, t6, t7, t8, RdI.len hc' underlying36, d1]
      have hbi : (b.drop i).take (b.length - i) = b.drop i := List.take_of_length_le (by rw [List.length_drop]; omega)
      have PT := RdI.partLo ha' hle
      simp (disch := omega) only [wk, wt, wl, ↓reduceIte, Nat.reduceEqDiff, Nat.reduceAdd, Nat.zero_add, not_false_eq_true, not_true_eq_false, t0, t1, t5, t6, t7, t8, Rd.sliceLo ha' underlying22 asz5 (q := .i64) (i := (i : Int)), Int.toNat_natCast]
      refine (feed_ok S.fd PT (fun x hx => hb x (hsl.2.2 x hx)) (fun x hx => hb x (List.mem_of_mem_drop hx)) (by omega) (by rw [List.length_drop]; omega)).use ?_
      rintro v2 h2 ⟨l2, s2, hfed, O2, hv2, F2, C2⟩
      rw [← hbi] at hfed
      obtain ⟨v3, h3, e3, S3, _⟩ := S.append (Nat.le_refl _) (by omega) hl hfed O2 F2 C2
      have hs3 := S3.lens
      simp only [wk, wt, wl, ↓reduceIte, Nat.reduceEqDiff, Nat.reduceAdd, Nat.zero_add, not_false_eq_true, not_true_eq_false, t0, t1, t5, t6, t7, t8]
      rw [e3]; clear e3
      simp (disch := omega) only [wk, wt, wl, ↓reduceIte, Nat.reduceEqDiff, Nat.reduceAdd, Nat.zero_add, not_false_eq_true, not_true_eq_false, t0, t1, t5, t7, t8, IntWalk.i64_in]
      refine (held_ok S3.fd).use_pure ?_
      simp (disch := omega) only [wk, wt, wl, ↓reduceIte, Nat.reduceEqDiff, Nat.reduceAdd, Nat.zero_add, not_false_eq_true, not_true_eq_false, t0, t1, t5, t7, t8]
      refine (flush_ok S3.fd (by omega)).use ?_
      rintro v4 h4 ⟨O4, hv4, F4, C4⟩
      have K4 := S3.keeps.step C4 fun y e => by omega
      have L4 : abuiltin prog .len #[24] #[v4] = some (.int .i64 s2.length) := Rd.len O4.1 underlying24
      simp (disch := omega) only [wk, wt, wl, ↓reduceIte, Nat.reduceEqDiff, Nat.reduceAdd, Nat.zero_add, not_false_eq_true, not_true_eq_false, t0, t1, t5, t7, t8, L4, decide_true]
      refine (held_ok F4).use_pure ?_
      simp (disch := omega) only [wk, wt, wl, ↓reduceIte, Nat.reduceEqDiff, Nat.reduceAdd, Nat.zero_add, not_false_eq_true, not_true_eq_false, t0, t1, t5, t7, t8, List.length_nil, Int.cast_ofNat_Int, decide_true]
      have O34 := Ch.own C4 S3.own fun y hy e => by have := S3.apart y hy; omega
      obtain ⟨v5, h5, e5, O5, _, C5, _⟩ := O34.appendRd (P := prog) (Ch.wf K4) (Ch.le K4) underlying24 underlying24 rfl elem21 fits21 (by decide) O4.1 (by omega)
      rw [e5]; clear e5
      have K5 := K4.step C5 fun y hy => hy.2
      simp (disch := omega) only [wk, wt, wl, ↓reduceIte, Nat.reduceEqDiff, Nat.reduceAdd, Nat.zero_add, not_false_eq_true, not_true_eq_false, t0, t1, t5, t7, t8]
      refine (refDecode_ok (ha.keeps K5) hb (by omega)).use ?_
      rintro v6 h6 ⟨l', hr, R6, _, K6⟩
      have hdec : Dec b ((l ++ l2) ++ List.replicate s2.length 65533) := ⟨l ++ l2, s2, by
        have := S3.fed
        rwa [List.take_of_length_le (by omega)] at this, rfl⟩
      obtain rfl := hdec.rdec.det hr
      have R5 : RdI prog h6 .i32 v5 (l ++ l2 ++ List.replicate s2.length 65533) := RdI.keeps (Rd.toI O5.1 (by simp; omega) (by simp [vI])) K6
      simp (disch := omega) only [wk, wt, wl, ↓reduceIte, Nat.reduceEqDiff, Nat.reduceAdd, Nat.zero_add, not_false_eq_true, not_true_eq_false]
      refine (runes_ok R5 R6 (by simp only [List.length_append, List.length_replicate] at hs3 ⊢; omega)).use_pure ?_
      simp (disch := omega) only [wk, wt, wl, ↓reduceIte, Nat.reduceEqDiff, Nat.reduceAdd, Nat.zero_add, not_false_eq_true, not_true_eq_false, decide_true]
      refine awakeU_ok.use ?_
      rintro _ h9 ⟨rfl, K9⟩
      simp only [wk, wt, wl, ↓reduceIte, Nat.reduceEqDiff, Nat.reduceAdd, Nat.zero_add, not_false_eq_true, not_true_eq_false]
      exact (K5.trans K6).trans K9
end Go.Proofs.Ytgllmnckphbkeaa.Am
