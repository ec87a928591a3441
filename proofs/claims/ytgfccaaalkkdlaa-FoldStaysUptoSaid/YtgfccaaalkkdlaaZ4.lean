/- The texts of this seat, one behind another (part 4 of 10): the frame (an abstract machine), the contracts of functions, the laws. -/
import Derived.Test.YtgfccaaalkkdlaaZ3
import Derived.Test.YtgfccaaalkkdlaaZ2
import Derived.Test.YtgfccaaalkkdlaaAmKind5
section
/- Folds made, dropped, closed or opened: contracts of slices.Clone, of slices.Insert at the end, of fold.Make, Drop, Set, by walks. -/
set_option linter.unusedSimpArgs false
set_option linter.unusedVariables false
set_option maxHeartbeats 4000000
set_option maxRecDepth 20000
namespace Go.Proofs.Ytgfccaaalkkdlaa.Am
open Go Go.RowKit Go.Proofs.Try
theorem blk_newF {n m c : Nat} (z : Nat) (e : blkOf (.slice (some ⟨n, 0, none⟩) m c) = some z) : n ≤ z := by cases e; exact Nat.le_refl _
theorem fam_ge {h h' : Heap} {v : Value} (K : Keeps h h') (hz : ∀ z, blkOf v = some z → h.size ≤ z) : ∀ x, FamV h' v x → h.size ≤ x := fun x F => by
  obtain ⟨k, g, f, _⟩ := FamV.rg (Fam.freshK K hz) F
  have := (Ch.wf K).2 x k g
  omega
theorem copyF {v : Value} {l : List F} {h : Heap} (H : Wf h) (R : FR h v l) (hl : l.length ≤ 1048576) :
    ∃ v' h', aappend prog (h.new 36 []) 22 22 (.slice (some ⟨h.size, 0, none⟩) 0 1) v = some (v', h') ∧ OS prog h.size h' 3 cF v' l ∧ (0 < l.length → OwnR prog h' 3 v' l.length (l.flatMap cF)) ∧ (∀ b, blkOf v' = some b → h.size ≤ b) ∧ Reads (h.new 36 []) h' ∧ Keeps h h' := by
  have K1 := Keeps.new H 36 []
  have O0 : OS prog h.size (h.new 36 []) 3 cF (.slice (some ⟨h.size, 0, none⟩) 0 1) ([] : List F) := Own.new H (Nat.le_refl _) asz36 (by simp)
  have RX := RS.keeps R K1
  by_cases h0 : 0 < l.length
  · obtain ⟨fz, fb, fs⟩ := fits36
    obtain ⟨h2, e2, O2, z2, R2, C2, k2, q1, q2, _⟩ := Own.append (P := prog) (Ch.wf K1) (Ch.le K1) O0 underlying22 underlying22 rfl elem36 fz (by rw [fb]; decide) fs (Rd.news RX) h0 (by rw [fm_len cF_len]) (by rw [fb]; simp only [List.length_nil]; omega)
    simp only [List.length_nil, Nat.zero_add, List.flatMap_nil, List.nil_append] at e2 O2
    refine ⟨_, h2, e2, O2, fun _ => ⟨O2.1, fun z e => ?_⟩, fun z e => ?_, R2, K1.step C2 fun b hb => hb.2⟩
    · cases e; exact ⟨k2, q1, q2⟩
    · exact Nat.le_of_succ_le (blk_newF z e)
  · obtain ⟨v2, h2, e2, O2, R2, C2, hv⟩ := O0.appendRS (P := prog) (Ch.wf K1) (Ch.le K1) underlying22 elem36 fits36 (by decide) RX (by simp only [List.length_nil]; omega)
    refine ⟨v2, h2, e2, by simpa using O2, fun h => absurd h h0, fun z e => ?_, R2, K1.step C2 fun b hb => hb.2⟩
    rcases hv with rfl | rfl | rfl
    · exact blk_newF z e
    · cases e
    · exact Nat.le_of_succ_le (blk_newF z e)
theorem cloneF_ok {v : Value} {l : List F} {h : Heap} (R : FR h v l) (hl : l.length ≤ 1048576) :
    ACalls prog 34 #[v] h (fun y h' => OS prog h.size h' 3 cF y l ∧ (0 < l.length → OwnR prog h' 3 y l.length (l.flatMap cF)) ∧ (∀ b, blkOf y = some b → h.size ≤ b) ∧ Keeps h h') := by
  refine acalls_of_W' func34 rfl (by kernel_rfl) (by kernel_rfl) (by simp [ntmps34]) ?_
  intro H
  have R0 := R
  obtain ⟨hlen, h2⟩ := R
  have eqn : ∀ c, abin prog .eql 22 (.slice none 0 c) (.slice none 0 0) = some (.bool true) := fun c => by simp [abin, aeq, underlying22]
  have eqs : ∀ a n c, abin prog .eql 22 (.slice (some a) n c) (.slice none 0 0) = some (.bool false) := fun a n c => by simp [abin, aeq, underlying22]
  have nl : l.length = 0 → l = [] := List.eq_nil_of_length_eq_zero
  rcases h2 with ⟨h0, rfl | rfl⟩ | ⟨b, o, c, k, rfl, hb, hk, hlv, ha, ho, hc⟩
  · simp only [wk, wt, wl, ↓reduceIte, Nat.reduceEqDiff, Nat.reduceAdd, Nat.zero_add, not_false_eq_true, not_true_eq_false, eqn]
    rw [nl h0]; exact ⟨OS.nil, (fun h => absurd h (by simp)), (fun b e => by cases e), Keeps.refl H⟩
  · simp only [wk, wt, wl, ↓reduceIte, Nat.reduceEqDiff, Nat.reduceAdd, Nat.zero_add, not_false_eq_true, not_true_eq_false, eqn]
    rw [nl h0]; exact ⟨OS.nil, (fun h => absurd h (by simp)), (fun b e => by cases e), Keeps.refl H⟩
  · simp only [wk, wt, wl, ↓reduceIte, Nat.reduceEqDiff, Nat.reduceAdd, Nat.zero_add, not_false_eq_true, not_true_eq_false, eqs, build0 underlying22 asz36]
    obtain ⟨v2, h2, e2, g1, g2, g3, _, g4⟩ := copyF H R0 hl
    rw [e2]; clear e2
    simp only [wk, wt, wl, ↓reduceIte, Nat.reduceEqDiff, Nat.reduceAdd, Nat.zero_add, not_false_eq_true, not_true_eq_false]
    exact ⟨g1, g2, g3, g4⟩
theorem insertE_ok {v x : Value} {l : List F} {f : F} {B : Nat} {h : Heap} (O : OS prog B h 3 cF v l) (X : FR h x [f]) (hB : B ≤ h.size) (hl : l.length ≤ 1000000) : ACalls prog 33 #[v, .int .i64 l.length, x] h (fun y h' => FR h' y (l ++ [f]) ∧ Ch (fun y => blkOf v = some y ∧ B ≤ y) h h') := by
  refine acalls_of_W' func33 rfl (by kernel_rfl) (by kernel_rfl) (by simp [ntmps33]) ?_
  intro H
  have R := O.rs
  have d1 : decide ((1 : Int) = 0) = false := by decide
  have d0 : decide (((l.length : Nat) : Int) = (l.length : Nat)) = true := decide_eq_true rfl
  have L1 : abuiltin prog .len #[22] #[x] = some (.int .i64 1) := X.len underlying22
  have L0 : abuiltin prog .len #[22] #[v] = some (.int .i64 l.length) := R.len underlying22
  have S0 := Rd.sliceLo R underlying22 asz36 (q := .i64) (i := (l.length : Int)) (by omega) (by omega)
  simp only [wk, wt, wl, ↓reduceIte, Nat.reduceEqDiff, Nat.reduceAdd, Nat.zero_add, not_false_eq_true, not_true_eq_false, S0, L1, L0, d0, d1]
  obtain ⟨v2, h2, e2, O2, R2, C2, _⟩ := O.appendRS H hB underlying22 elem36 fits36 (by decide) X (by simp only [List.length_cons, List.length_nil]; omega)
  rw [e2]; clear e2
  simp only [wk, wt, wl, ↓reduceIte, Nat.reduceEqDiff, Nat.reduceAdd, Nat.zero_add, not_false_eq_true, not_true_eq_false]
  exact ⟨O2.rs, C2⟩
theorem make_ok {v : Value} {l : List F} {a b : Int} {h : Heap} (R : FR h v l) (hl : l.length ≤ 9223372036854775807) :
    ACalls prog 23 #[v, .int .i64 a, .int .i64 b] h (fun y h' => ∃ u, y = .tuple #[u, .int .i64 (makeR l a b).2] ∧ FR h' u (makeR l a b).1 ∧ Keeps h h') := by
  refine acalls_of_W' func23 rfl (by kernel_rfl) (by kernel_rfl) (by simp [ntmps23]) ?_
  intro H
  simp only [wk, wt, wl, ↓reduceIte, Nat.reduceEqDiff, Nat.reduceAdd, Nat.zero_add, not_false_eq_true, not_true_eq_false]
  refine (right_ok R hl).use ?_
  rintro _ h2 ⟨rfl, K2⟩
  by_cases hbad : rightB l = false ∨ a < 0 ∨ b ≤ a ∨ 1073741824 < b
  · have hm : makeR l a b = ([], 1) := by unfold makeR; rw [if_pos hbad]
    rw [hm]
    cases hr : rightB l with
    | false => simp only [wk, wt, wl, ↓reduceIte, Nat.reduceEqDiff, Nat.reduceAdd, Nat.zero_add, not_false_eq_true, not_true_eq_false, hr, Bool.not_false]; exact ⟨_, rfl, Rd.nil0, K2⟩
    | true =>
      rw [hr] at hbad
      by_cases ha : a < 0
      · have d1 : decide (a < 0) = true := decide_eq_true ha
        simp only [wk, wt, wl, ↓reduceIte, Nat.reduceEqDiff, Nat.reduceAdd, Nat.zero_add, not_false_eq_true, not_true_eq_false, hr, Bool.not_true, d1]; exact ⟨_, rfl, Rd.nil0, K2⟩
      · have d1 : decide (a < 0) = false := decide_eq_false ha
        by_cases hb : b ≤ a
        · have d2 : decide (b ≤ a) = true := decide_eq_true hb
          simp only [wk, wt, wl, ↓reduceIte, Nat.reduceEqDiff, Nat.reduceAdd, Nat.zero_add, not_false_eq_true, not_true_eq_false, hr, Bool.not_true, d1, d2]; exact ⟨_, rfl, Rd.nil0, K2⟩
        · have d2 : decide (b ≤ a) = false := decide_eq_false hb
          have d3 : decide (1073741824 < b) = true := by
            rcases hbad with g | g | g | g
            · cases g
            · exact absurd g ha
            · exact absurd g hb
            · exact decide_eq_true g
          simp only [wk, wt, wl, ↓reduceIte, Nat.reduceEqDiff, Nat.reduceAdd, Nat.zero_add, not_false_eq_true, not_true_eq_false, hr, Bool.not_true, d1, d2, d3]; exact ⟨_, rfl, Rd.nil0, K2⟩
  · have hr : rightB l = true := by
      cases e : rightB l with
      | true => rfl
      | false => exact absurd (.inl e) hbad
    have d1 : decide (a < 0) = false := decide_eq_false fun e => hbad (.inr (.inl e))
    have d2 : decide (b ≤ a) = false := decide_eq_false fun e => hbad (.inr (.inr (.inl e)))
    have d3 : decide (1073741824 < b) = false := decide_eq_false fun e => hbad (.inr (.inr (.inr e)))
    obtain ⟨r1, r2, r3⟩ := rightB_at hr
    simp only [wk, wt, wl, ↓reduceIte, Nat.reduceEqDiff, Nat.reduceAdd, Nat.zero_add, not_false_eq_true, not_true_eq_false, hr, Bool.not_true, d1, d2, d3]
    refine (find_ok (x := a) (RS.keeps R K2) hr).use ?_
    rintro _ h3 ⟨i, rfl, hi, hA, hB, K3⟩
    have hfi : firstF l a = i := firstF_eq hi hA hB
    have K03 := K2.trans K3
    have R3 : FR h3 v l := RS.keeps R K03
    have step : ∀ h4 v4, OS prog h3.size h4 3 cF v4 l → (0 < l.length → OwnR prog h4 3 v4 l.length (l.flatMap cF)) → (∀ z, blkOf v4 = some z → h3.size ≤ z) → Keeps h3 h4 → ¬ (l[i]?.any fun f => decide (f.fr ≤ b)) = true → l.length ≠ 64 →
        ACalls prog 33 #[v4, .int .i64 i, .slice (some ⟨h4.size, 0, none⟩) 1 2] (h4.new 36 (cF ⟨a, b, true⟩)) (fun y h' => FR h' y (makeR l a b).1 ∧ Keeps h h') := by
      intro h4 v4 O4 P4 hz K4 hn h64
      have hm : (makeR l a b).1 = l.take i ++ ⟨a, b, true⟩ :: l.drop i := by unfold makeR; rw [if_neg hbad, hfi, if_neg hn, if_neg h64]
      rw [hm]
      have K04 := K03.trans K4
      have N5 := Keeps.new (Ch.wf K4) 36 (cF ⟨a, b, true⟩)
      have K05 := K04.trans N5
      have hz0 : ∀ z, blkOf v4 = some z → h.size ≤ z := fun z e => Nat.le_trans (Ch.le K03) (hz z e)
      by_cases hil : i < l.length
      · have hlt4 : ∀ z, blkOf v4 = some z → z < h4.size := fun z e => ((P4 (by omega)).1.blk_lt e).1
        have V5 : Var (h4.new 36 (cF ⟨a, b, true⟩)) h4.size (cF ⟨a, b, true⟩) := Var.new (Ch.wf K4)
        refine (insert_ok (OwnR.keeps (P4 (by omega)) N5) V5 (V5.notFam fun e => ?_) (fun k g => by rw [new_self] at g; cases g; exact asz36) hil (by omega)).mono ?_
        · have := hlt4 _ e; omega
        · rintro y h6 ⟨g1, g2, g3⟩
          exact ⟨g1, K05.step g3 fun x hx => fam_ge K05 hz0 x hx⟩
      · obtain rfl : i = l.length := by omega
        rw [List.take_length, List.drop_length]
        have X5 : FR (h4.new 36 (cF ⟨a, b, true⟩)) (.slice (some ⟨h4.size, 0, none⟩) 1 2) [⟨a, b, true⟩] := Rd.new (Ch.wf K4) asz36 rfl
        refine (insertE_ok (O4.keeps N5) X5 (Nat.le_trans (Ch.le K4) (Ch.le N5)) (by omega)).mono ?_
        rintro y h6 ⟨g1, g3⟩
        exact ⟨g1, K05.step g3 fun x hx => hz0 x hx.1⟩
    have fin : ¬ (l[i]?.any fun f => decide (f.fr ≤ b)) = true → l.length ≠ 64 → (makeR l a b).2 = 0 := fun hn h64 => by unfold makeR; rw [if_neg hbad, hfi, if_neg hn, if_neg h64]
    by_cases h64 : l.length = 64
    · have d6 : decide (((l.length : Nat) : Int) = 64) = true := decide_eq_true (by omega)
      by_cases hil : i < l.length
      · have d4 : decide ((i : Int) < l.length) = true := decide_eq_true (by omega)
        obtain ⟨f, hx⟩ : ∃ f, l[i]? = some f := ⟨l[i], by simp [hil]⟩
        obtain ⟨F0, F1, F2, F3⟩ := R3.flds hx
        have IX := Rd.index R3 underlying22 asz36 (q := .i64) (i := (i : Int)) (by omega) (by omega)
        simp only [Int.toNat_natCast] at IX
        by_cases hfb : f.fr ≤ b
        · have d5 : decide (f.fr ≤ b) = true := decide_eq_true hfb
          have hm : makeR l a b = ([], 32) := by unfold makeR; rw [if_neg hbad, hfi, if_pos (by simp [hx, hfb])]
          rw [hm]
          simp only [wk, wt, wl, ↓reduceIte, Nat.reduceEqDiff, Nat.reduceAdd, Nat.zero_add, not_false_eq_true, not_true_eq_false, R3.len underlying22, d4, IX, F0, d5]
          exact ⟨_, rfl, Rd.nil0, K03⟩
        · have d5 : decide (f.fr ≤ b) = false := decide_eq_false hfb
          have hm : makeR l a b = ([], 3) := by unfold makeR; rw [if_neg hbad, hfi, if_neg (by simp [hx, hfb]), if_pos h64]
          rw [hm]
          simp only [wk, wt, wl, ↓reduceIte, Nat.reduceEqDiff, Nat.reduceAdd, Nat.zero_add, not_false_eq_true, not_true_eq_false, R3.len underlying22, d4, IX, F0, d5, d6]
          exact ⟨_, rfl, Rd.nil0, K03⟩
      · have d4 : decide ((i : Int) < l.length) = false := decide_eq_false (by omega)
        have hx : l[i]? = none := List.getElem?_eq_none (by omega)
        have hm : makeR l a b = ([], 3) := by unfold makeR; rw [if_neg hbad, hfi, if_neg (by simp [hx]), if_pos h64]
        rw [hm]
        simp only [wk, wt, wl, ↓reduceIte, Nat.reduceEqDiff, Nat.reduceAdd, Nat.zero_add, not_false_eq_true, not_true_eq_false, R3.len underlying22, d4, d6]
        exact ⟨_, rfl, Rd.nil0, K03⟩
    · have d6 : decide (((l.length : Nat) : Int) = 64) = false := decide_eq_false (by omega)
      by_cases hil : i < l.length
      · have d4 : decide ((i : Int) < l.length) = true := decide_eq_true (by omega)
        obtain ⟨f, hx⟩ : ∃ f, l[i]? = some f := ⟨l[i], by simp [hil]⟩
        obtain ⟨F0, F1, F2, F3⟩ := R3.flds hx
        have IX := Rd.index R3 underlying22 asz36 (q := .i64) (i := (i : Int)) (by omega) (by omega)
        simp only [Int.toNat_natCast] at IX
        by_cases hfb : f.fr ≤ b
        · have d5 : decide (f.fr ≤ b) = true := decide_eq_true hfb
          have hm : makeR l a b = ([], 32) := by unfold makeR; rw [if_neg hbad, hfi, if_pos (by simp [hx, hfb])]
          rw [hm]
          simp only [wk, wt, wl, ↓reduceIte, Nat.reduceEqDiff, Nat.reduceAdd, Nat.zero_add, not_false_eq_true, not_true_eq_false, R3.len underlying22, d4, IX, F0, d5]
          exact ⟨_, rfl, Rd.nil0, K03⟩
        · have d5 : decide (f.fr ≤ b) = false := decide_eq_false hfb
          have hn : ¬ (l[i]?.any fun f => decide (f.fr ≤ b)) = true := by simp [hx, hfb]
          simp only [wk, wt, wl, ↓reduceIte, Nat.reduceEqDiff, Nat.reduceAdd, Nat.zero_add, not_false_eq_true, not_true_eq_false, R3.len underlying22, d4, IX, F0, d5, d6]
          refine (cloneF_ok R3 (by omega)).use ?_
          rintro v4 h4 ⟨O4, P4, hz, K4⟩
          simp only [wk, wt, wl, ↓reduceIte, Nat.reduceEqDiff, Nat.reduceAdd, Nat.zero_add, not_false_eq_true, not_true_eq_false, build_f3, bsf]
          refine (step h4 v4 O4 P4 hz K4 hn h64).use ?_
          rintro y h6 ⟨g1, g2⟩
          simp only [wk, wt, wl, ↓reduceIte, Nat.reduceEqDiff, Nat.reduceAdd, Nat.zero_add, not_false_eq_true, not_true_eq_false]
          rw [fin hn h64]
          exact ⟨_, rfl, g1, g2⟩
      · have d4 : decide ((i : Int) < l.length) = false := decide_eq_false (by omega)
        have hx : l[i]? = none := List.getElem?_eq_none (by omega)
        have hn : ¬ (l[i]?.any fun f => decide (f.fr ≤ b)) = true := by simp [hx]
        simp only [wk, wt, wl, ↓reduceIte, Nat.reduceEqDiff, Nat.reduceAdd, Nat.zero_add, not_false_eq_true, not_true_eq_false, R3.len underlying22, d4, d6]
        refine (cloneF_ok R3 (by omega)).use ?_
        rintro v4 h4 ⟨O4, P4, hz, K4⟩
        simp only [wk, wt, wl, ↓reduceIte, Nat.reduceEqDiff, Nat.reduceAdd, Nat.zero_add, not_false_eq_true, not_true_eq_false, build_f3, bsf]
        refine (step h4 v4 O4 P4 hz K4 hn h64).use ?_
        rintro y h6 ⟨g1, g2⟩
        simp only [wk, wt, wl, ↓reduceIte, Nat.reduceEqDiff, Nat.reduceAdd, Nat.zero_add, not_false_eq_true, not_true_eq_false]
        rw [fin hn h64]
        exact ⟨_, rfl, g1, g2⟩
theorem drop_ok {v : Value} {l : List F} {x : Int} {h : Heap} (R : FR h v l) (hl : l.length ≤ 9223372036854775807) :
    ACalls prog 25 #[v, .int .i64 x] h (fun y h' => ∃ u, y = .tuple #[u, .int .i64 (dropR l x).2] ∧ FR h' u (dropR l x).1 ∧ Keeps h h') := by
  refine acalls_of_W' func25 rfl (by kernel_rfl) (by kernel_rfl) (by simp [ntmps25]) ?_
  intro H
  simp only [wk, wt, wl, ↓reduceIte, Nat.reduceEqDiff, Nat.reduceAdd, Nat.zero_add, not_false_eq_true, not_true_eq_false]
  refine (at_ok R hl).use ?_
  rintro _ h2 ⟨rfl, K2⟩
  unfold atV dropR
  cases hr : rightB l with
  | false =>
    have d1 : decide (¬ (1 : Int) = 0) = true := by decide
    simp only [Bool.false_eq_true, if_false, if_true]
    simp only [wk, wt, wl, ↓reduceIte, Nat.reduceEqDiff, Nat.reduceAdd, Nat.zero_add, not_false_eq_true, not_true_eq_false, d1]
    exact ⟨_, rfl, Rd.nil0, K2⟩
  | true =>
    obtain ⟨r1, r2, r3⟩ := rightB_at hr
    simp only [if_true, Bool.true_eq_false, if_false]
    cases e : inF l x with
    | none =>
      have d1 : decide (¬ (32 : Int) = 0) = true := by decide
      simp only [wk, wt, wl, ↓reduceIte, Nat.reduceEqDiff, Nat.reduceAdd, Nat.zero_add, not_false_eq_true, not_true_eq_false, d1]
      exact ⟨_, rfl, Rd.nil0, K2⟩
    | some k =>
      obtain ⟨f0, hf0, _⟩ := inF_some e
      have hk := (List.getElem?_eq_some_iff.1 hf0).1
      have d1 : decide (¬ (0 : Int) = 0) = false := by decide
      simp only [wk, wt, wl, ↓reduceIte, Nat.reduceEqDiff, Nat.reduceAdd, Nat.zero_add, not_false_eq_true, not_true_eq_false, d1]
      refine (cloneF_ok (RS.keeps R K2) (by omega)).use ?_
      rintro v4 h4 ⟨O4, P4, hz, K4⟩
      have K04 := K2.trans K4
      have hz0 : ∀ z, blkOf v4 = some z → h.size ≤ z := fun z e => Nat.le_trans (Ch.le K2) (hz z e)
      simp (disch := omega) only [wk, wt, wl, ↓reduceIte, Nat.reduceEqDiff, Nat.reduceAdd, Nat.zero_add, not_false_eq_true, not_true_eq_false, IntWalk.i64_in]
      refine (delete_ok (P4 (by omega)) hk).use ?_
      rintro y h5 ⟨g1, g2, g3⟩
      simp only [wk, wt, wl, ↓reduceIte, Nat.reduceEqDiff, Nat.reduceAdd, Nat.zero_add, not_false_eq_true, not_true_eq_false]
      exact ⟨_, rfl, g1, K04.step g3 fun x hx => fam_ge K04 hz0 x hx⟩
theorem over_cl {l : List F} {k : Nat} {f : F} {c : Bool} (hk : l[k]? = some f) : over (l.flatMap cF) (k * 3 + 2) [.bool c] = (shutAt l k c).flatMap cF := by
  have hlt := (List.getElem?_eq_some_iff.1 hk).1
  have e : shutAt l k c = l.set k ⟨f.fr, f.to, c⟩ := by unfold shutAt; rw [hk]
  have hlen : (l.flatMap cF).length = l.length * 3 := fm_len cF_len
  rw [e, ← fm_over (x := ⟨f.fr, f.to, c⟩) cF_len hlt]
  have a0 := fm_at cF_len hk (j := 0) (by omega)
  have a1 := fm_at cF_len hk (j := 1) (by omega)
  refine List.ext_getElem? fun j => ?_
  rw [over_get (by simp only [List.length_singleton]; omega), over_get (by simp only [cF, List.length_cons, List.length_nil]; omega)]
  have c3 : (cF ⟨f.fr, f.to, c⟩).length = 3 := rfl
  have c1 : ([Value.bool c] : List Value).length = 1 := rfl
  by_cases h0 : j = k * 3
  · subst h0
    rw [if_neg (by omega), if_pos (by omega), Nat.sub_self]
    simpa [cF] using a0
  · by_cases h1 : j = k * 3 + 1
    · subst h1
      rw [if_neg (by omega), if_pos (by omega), show k * 3 + 1 - k * 3 = 1 from by omega]
      simpa [cF] using a1
    · by_cases h2 : j = k * 3 + 2
      · subst h2
        rw [if_pos (by omega), if_pos (by omega), Nat.sub_self, show k * 3 + 2 - k * 3 = 2 from by omega]
        rfl
      · rw [if_neg (by omega), if_neg (by omega)]
theorem store_cl {v : Value} {l : List F} {k : Nat} {f : F} {c : Bool} {h : Heap} (H : Wf h) (O : OwnR prog h 3 v l.length (l.flatMap cF)) (hk : l[k]? = some f) :
    ∃ h', storeV prog h 4 (.pointer (some ⟨(eltA v 3 k).block, (eltA v 3 k).off + 2, none⟩)) (.bool c) = some (undef, h') ∧ FR h' v (shutAt l k c) ∧ Ch (FamV h v) h h' := by
  have hlt := (List.getElem?_eq_some_iff.1 hk).1
  have O0 := O
  obtain ⟨⟨_, ⟨h0, _⟩ | ⟨b, o, c', kk, rfl, _⟩⟩, _⟩ := O0
  · omega
  · obtain ⟨h', e1, O2, C2, _⟩ := O.put H (i := k * 3 + 2) (vs := [.bool c]) (a := ⟨b, o + (k * 3 + 2), none⟩) ⟨_, _, rfl, rfl⟩ (by simp only [List.length_singleton]; omega) rfl
    refine ⟨h', ?_, ?_, C2⟩
    · rw [storeV_over (by rw [asz4]; rfl)]
      show (aover h ⟨b, o + k * 3 + 2, none⟩ [.bool c]).map _ = _
      rw [Nat.add_assoc, e1]; rfl
    · have := O2.1
      rw [over_cl hk] at this
      show Rd prog h' 3 _ (shutAt l k c).length _
      rw [shut_len]; exact this
theorem set_ok {v : Value} {l : List F} {x : Int} {c : Bool} {h : Heap} (R : FR h v l) (hl : l.length ≤ 9223372036854775807) :
    ACalls prog 27 #[v, .int .i64 x, .bool c] h (fun y h' => ∃ u, y = .tuple #[u, .int .i64 (setR l x c).2] ∧ FR h' u (setR l x c).1 ∧ Keeps h h') := by
  refine acalls_of_W' func27 rfl (by kernel_rfl) (by kernel_rfl) (by simp [ntmps27]) ?_
  intro H
  simp only [wk, wt, wl, ↓reduceIte, Nat.reduceEqDiff, Nat.reduceAdd, Nat.zero_add, not_false_eq_true, not_true_eq_false]
  refine (at_ok R hl).use ?_
  rintro _ h2 ⟨rfl, K2⟩
  unfold atV setR
  cases hr : rightB l with
  | false =>
    have d1 : decide (¬ (1 : Int) = 0) = true := by decide
    simp only [Bool.false_eq_true, if_false, if_true]
    simp only [wk, wt, wl, ↓reduceIte, Nat.reduceEqDiff, Nat.reduceAdd, Nat.zero_add, not_false_eq_true, not_true_eq_false, d1]
    exact ⟨_, rfl, Rd.nil0, K2⟩
  | true =>
    obtain ⟨r1, r2, r3⟩ := rightB_at hr
    simp only [if_true, Bool.true_eq_false, if_false]
    cases e : inF l x with
    | none =>
      have d1 : decide (¬ (32 : Int) = 0) = true := by decide
      simp only [wk, wt, wl, ↓reduceIte, Nat.reduceEqDiff, Nat.reduceAdd, Nat.zero_add, not_false_eq_true, not_true_eq_false, d1]
      exact ⟨_, rfl, Rd.nil0, K2⟩
    | some k =>
      obtain ⟨f0, hf0, _⟩ := inF_some e
      have hk := (List.getElem?_eq_some_iff.1 hf0).1
      have d1 : decide (¬ (0 : Int) = 0) = false := by decide
      simp only [wk, wt, wl, ↓reduceIte, Nat.reduceEqDiff, Nat.reduceAdd, Nat.zero_add, not_false_eq_true, not_true_eq_false, d1]
      refine (cloneF_ok (RS.keeps R K2) (by omega)).use ?_
      rintro v4 h4 ⟨O4, P4, hz, K4⟩
      have K04 := K2.trans K4
      have hz0 : ∀ z, blkOf v4 = some z → h.size ≤ z := fun z e => Nat.le_trans (Ch.le K2) (hz z e)
      have R4 : FR h4 v4 l := O4.rs
      have IX := Rd.index R4 underlying22 asz36 (q := .i64) (i := (k : Int)) (by omega) (by omega)
      simp only [Int.toNat_natCast] at IX
      obtain ⟨h5, e5, R5, C5⟩ := store_cl (c := c) (Ch.wf K4) (P4 (by omega)) hf0
      simp only [wk, wt, wl, ↓reduceIte, Nat.reduceEqDiff, Nat.reduceAdd, Nat.zero_add, not_false_eq_true, not_true_eq_false, IX, e5]
      exact ⟨_, rfl, R5, K04.step C5 fun x hx => fam_ge K04 hz0 x hx⟩
end Go.Proofs.Ytgfccaaalkkdlaa.Am
end
section
/- Folds made, dropped, closed or opened: contracts of the document's Make, Drop, Set, by walks. -/
set_option linter.unusedSimpArgs false
set_option linter.unusedVariables false
set_option maxHeartbeats 4000000
set_option maxRecDepth 20000
namespace Go.Proofs.Ytgfccaaalkkdlaa.Am
open Go Go.RowKit Go.Proofs.Try
def outM (l : List F) (p i : Nat) (g : F) : List F := if i ≤ p then l.take i else l.take p ++ g :: (l.drop p).take (i - p)
theorem outM_len {l : List F} {p i : Nat} {g : F} : (outM l p i g).length ≤ i + 1 := by
  unfold outM
  split
  · rw [List.length_take]; omega
  · rw [List.length_append, List.length_cons, List.length_take, List.length_take]; omega
theorem outM_low {l : List F} {p i : Nat} {g f : F} (h : l[i]? = some f) (hp : i < p) : outM l p i g ++ [f] = outM l p (i + 1) g := by
  unfold outM
  rw [if_pos (by omega), if_pos (by omega), List.take_add_one, h]; rfl
theorem outM_at {l : List F} {i : Nat} {g f : F} (h : l[i]? = some f) : (outM l i i g ++ [g]) ++ [f] = outM l i (i + 1) g := by
  unfold outM
  rw [if_pos (Nat.le_refl _), if_neg (by omega), dropAt h, show i + 1 - i = 1 from by omega]
  simp
theorem outM_high {l : List F} {p i : Nat} {g f : F} (h : l[i]? = some f) (hp : p < i) : outM l p i g ++ [f] = outM l p (i + 1) g := by
  unfold outM
  have e : (l.drop p)[i - p]? = some f := by rw [List.getElem?_drop, show p + (i - p) = i from by omega]; exact h
  rw [if_neg (by omega), if_neg (by omega), show i + 1 - p = (i - p) + 1 from by omega, List.take_add_one, e]
  simp
theorem outM_end {l : List F} {p : Nat} {g : F} (hp : p < l.length) : outM l p l.length g = l.take p ++ g :: l.drop p := by
  unfold outM
  have e : (l.drop p).take (l.length - p) = l.drop p := List.take_of_length_le (by rw [List.length_drop]; omega)
  rw [if_neg (by omega), e]
theorem outM_whole {l : List F} {g : F} : outM l l.length l.length g = l := by
  unfold outM
  rw [if_pos (Nat.le_refl _), List.take_length]
theorem refMake_ok {v : Value} {l : List F} {a b : Int} {h : Heap} (R : FR h v l) (hl : l.length ≤ 9223372036854775807) :
    ACalls prog 24 #[v, .int .i64 a, .int .i64 b] h (fun y h' => ∃ u, y = .tuple #[u, .int .i64 (makeR l a b).2] ∧ FR h' u (makeR l a b).1 ∧ Keeps h h') := by
  refine acalls_of_W' func24 rfl (by kernel_rfl) (by kernel_rfl) (by simp [ntmps24]) ?_
  intro H
  simp only [wk, wt, wl, ↓reduceIte, Nat.reduceEqDiff, Nat.reduceAdd, Nat.zero_add, not_false_eq_true, not_true_eq_false]
  refine (refRight_ok R hl).use_pure ?_
  by_cases hbad : rightB l = false ∨ a < 0 ∨ b ≤ a ∨ 1073741824 < b
  · have hm : makeR l a b = ([], 1) := by unfold makeR; rw [if_pos hbad]
    rw [hm]
    cases hr : rightB l with
    | false => simp only [wk, wt, wl, ↓reduceIte, Nat.reduceEqDiff, Nat.reduceAdd, Nat.zero_add, not_false_eq_true, not_true_eq_false, hr, Bool.not_false]; exact ⟨_, rfl, Rd.nil0, Keeps.refl H⟩
    | true =>
      rw [hr] at hbad
      by_cases ha : a < 0
      · have d1 : decide (a < 0) = true := decide_eq_true ha
        simp only [wk, wt, wl, ↓reduceIte, Nat.reduceEqDiff, Nat.reduceAdd, Nat.zero_add, not_false_eq_true, not_true_eq_false, hr, Bool.not_true, d1]; exact ⟨_, rfl, Rd.nil0, Keeps.refl H⟩
      · have d1 : decide (a < 0) = false := decide_eq_false ha
        by_cases hb : b ≤ a
        · have d2 : decide (b ≤ a) = true := decide_eq_true hb
          simp only [wk, wt, wl, ↓reduceIte, Nat.reduceEqDiff, Nat.reduceAdd, Nat.zero_add, not_false_eq_true, not_true_eq_false, hr, Bool.not_true, d1, d2]; exact ⟨_, rfl, Rd.nil0, Keeps.refl H⟩
        · have d2 : decide (b ≤ a) = false := decide_eq_false hb
          have d3 : decide (1073741824 < b) = true := by
            rcases hbad with g | g | g | g
            · cases g
            · exact absurd g ha
            · exact absurd g hb
            · exact decide_eq_true g
          simp only [wk, wt, wl, ↓reduceIte, Nat.reduceEqDiff, Nat.reduceAdd, Nat.zero_add, not_false_eq_true, not_true_eq_false, hr, Bool.not_true, d1, d2, d3]; exact ⟨_, rfl, Rd.nil0, Keeps.refl H⟩
  · have hr : rightB l = true := by
      cases e : rightB l with
      | true => rfl
      | false => exact absurd (.inl e) hbad
    have b1 : ¬ a < 0 := fun e => hbad (.inr (.inl e))
    have b2 : ¬ b ≤ a := fun e => hbad (.inr (.inr (.inl e)))
    have b3 : ¬ 1073741824 < b := fun e => hbad (.inr (.inr (.inr e)))
    have d1 : decide (a < 0) = false := decide_eq_false b1
    have d2 : decide (b ≤ a) = false := decide_eq_false b2
    have d3 : decide (1073741824 < b) = false := decide_eq_false b3
    obtain ⟨r1, r2, r3⟩ := rightB_at hr
    obtain ⟨p0, q0, s0⟩ := firstF_at (l := l) (x := a)
    obtain ⟨p, hp⟩ : ∃ p, p = firstF l a := ⟨_, rfl⟩
    rw [← hp] at p0 q0 s0
    simp only [wk, wt, wl, ↓reduceIte, Nat.reduceEqDiff, Nat.reduceAdd, Nat.zero_add, not_false_eq_true, not_true_eq_false, hr, Bool.not_true, d1, d2, d3]
    refine W_loop (fun tm h' => Keeps h h' ∧ tm 0 = v ∧ tm 1 = .int .i64 a ∧ tm 2 = .int .i64 b ∧ ∃ (i : Nat) (ov : Value), tm 10 = .int .i64 i ∧ tm 8 = ov ∧ tm 9 = .bool (decide (p < i)) ∧ i ≤ l.length ∧ OS prog h.size h' 3 cF ov (outM l p i ⟨a, b, true⟩) ∧ (p < i → ¬ (l[p]?.any fun f => decide (f.fr ≤ b)) = true)) (fun tm _ => (l.length - intOf (tm 10)).toNat)
      ⟨Keeps.refl H, (by first | rfl | (simp only [wk, wt, wl, ↓reduceIte, Nat.reduceEqDiff, Nat.reduceAdd, Nat.zero_add, not_false_eq_true, not_true_eq_false]; done) | (simp only [wk, wt, wl, ↓reduceIte, Nat.reduceEqDiff, Nat.reduceAdd, Nat.zero_add, not_false_eq_true, not_true_eq_false]; rfl)), (by first | rfl | (simp only [wk, wt, wl, ↓reduceIte, Nat.reduceEqDiff, Nat.reduceAdd, Nat.zero_add, not_false_eq_true, not_true_eq_false]; done) | (simp only [wk, wt, wl, ↓reduceIte, Nat.reduceEqDiff, Nat.reduceAdd, Nat.zero_add, not_false_eq_true, not_true_eq_false]; rfl)), (by first | rfl | (simp only [wk, wt, wl, ↓reduceIte, Nat.reduceEqDiff, Nat.reduceAdd, Nat.zero_add, not_false_eq_true, not_true_eq_false]; done) | (simp only [wk, wt, wl, ↓reduceIte, Nat.reduceEqDiff, Nat.reduceAdd, Nat.zero_add, not_false_eq_true, not_true_eq_false]; rfl)), 0, .slice none 0 0, (by first | rfl | (simp only [wk, wt, wl, ↓reduceIte, Nat.reduceEqDiff, Nat.reduceAdd, Nat.zero_add, not_false_eq_true, not_true_eq_false]; done) | (simp only [wk, wt, wl, ↓reduceIte, Nat.reduceEqDiff, Nat.reduceAdd, Nat.zero_add, not_false_eq_true, not_true_eq_false]; rfl)), (by first | rfl | (simp only [wk, wt, wl, ↓reduceIte, Nat.reduceEqDiff, Nat.reduceAdd, Nat.zero_add, not_false_eq_true, not_true_eq_false]; done) | (simp only [wk, wt, wl, ↓reduceIte, Nat.reduceEqDiff, Nat.reduceAdd, Nat.zero_add, not_false_eq_true, not_true_eq_false]; rfl)), (by first | rfl | (simp only [wk, wt, wl, ↓reduceIte, Nat.reduceEqDiff, Nat.reduceAdd, Nat.zero_add, not_false_eq_true, not_true_eq_false]; done) | (simp only [wk, wt, wl, ↓reduceIte, Nat.reduceEqDiff, Nat.reduceAdd, Nat.zero_add, not_false_eq_true, not_true_eq_false]; rfl)), by omega, by unfold outM; rw [if_pos (by omega), List.take_zero]; exact OS.nil, fun e => by omega⟩ ?_
    rintro tm h' ⟨K, t0, t1, t2, i, ov, t10, t8, t9, hi, O, hno⟩
    have R' : FR h' v l := RS.keeps R K
    simp (disch := omega) only [wk, wt, wl, ↓reduceIte, Nat.reduceEqDiff, Nat.reduceAdd, Nat.zero_add, not_false_eq_true, not_true_eq_false, t0, t10, t8, t9, t1, t2, R'.len underlying22]
    refine condK_dec (fun hd => ?_) (fun hd => ?_)
    · have hi1 : i < l.length := by omega
      obtain ⟨f, hx⟩ : ∃ f, l[i]? = some f := ⟨l[i], by simp [hi1]⟩
      have hf := r1 i f hx
      obtain ⟨F0, F1, F2, F3⟩ := R'.flds hx
      have IX := Rd.index R' underlying22 asz36 (q := .i64) (i := (i : Int)) (by omega) (by omega)
      simp only [Int.toNat_natCast] at IX
      have hol := outM_len (l := l) (p := p) (i := i) (g := ⟨a, b, true⟩)
      by_cases hip : i < p
      · have e1 : decide (f.fr ≤ b) = true := decide_eq_true (by have := q0 i f hip hx; omega)
        have e2 : decide (a ≤ f.to) = false := decide_eq_false (by have := q0 i f hip hx; omega)
        have e3 : decide (p < i) = false := decide_eq_false (by omega)
        have e4 : decide (b < f.fr) = false := decide_eq_false (by have := q0 i f hip hx; omega)
        simp (disch := omega) only [wk, wt, wl, ↓reduceIte, Nat.reduceEqDiff, Nat.reduceAdd, Nat.zero_add, not_false_eq_true, not_true_eq_false, t0, t10, t8, t9, t1, t2, IX, F0, F1, F3, e1, e2, e3, e4, Bool.not_false, Bool.not_true, bsf]
        obtain ⟨v2, h2, e2', O2, C2, R2, ev2⟩ := O.append1 (P := prog) (Ch.wf K) (Ch.le K) underlying22 elem36 fits36 (by decide) (by decide) f rfl (by omega)
        rw [e2']; clear e2'
        rw [outM_low hx hip] at O2
        have KK := K.step C2 fun b hb => hb.2
        simp (disch := omega) only [wk, wt, wl, ↓reduceIte, Nat.reduceEqDiff, Nat.reduceAdd, Nat.zero_add, not_false_eq_true, not_true_eq_false, t0, t10, t8, t9, t1, t2, IntWalk.i64_in, intOf_int]
        exact ⟨⟨KK, i + 1, v2, by simp, rfl, by rw [decide_eq_false (by omega), decide_eq_false (by omega)], by omega, O2, fun e => by omega⟩, by omega⟩
      · by_cases hie : i = p
        · subst hie
          have g1 := s0 f hx
          have e2 : decide (a ≤ f.to) = true := decide_eq_true g1
          have e3 : decide (i < i) = false := decide_eq_false (by omega)
          by_cases hfb : f.fr ≤ b
          · have e1 : decide (f.fr ≤ b) = true := decide_eq_true hfb
            have hm : makeR l a b = ([], 32) := by unfold makeR; rw [if_neg hbad, ← hp, if_pos (by simp [hx, hfb])]
            simp (disch := omega) only [wk, wt, wl, ↓reduceIte, Nat.reduceEqDiff, Nat.reduceAdd, Nat.zero_add, not_false_eq_true, not_true_eq_false, t0, t10, t8, t9, t1, t2, IX, F0, F1, F3, e1, e2, e3, Bool.not_false, Bool.not_true]
            rw [hm]
            exact ⟨_, rfl, Rd.nil0, K⟩
          · have e1 : decide (f.fr ≤ b) = false := decide_eq_false hfb
            have e4 : decide (b < f.fr) = true := decide_eq_true (by omega)
            simp (disch := omega) only [wk, wt, wl, ↓reduceIte, Nat.reduceEqDiff, Nat.reduceAdd, Nat.zero_add, not_false_eq_true, not_true_eq_false, t0, t10, t8, t9, t1, t2, IX, F0, F1, F3, e1, e2, e3, e4, Bool.not_false, Bool.not_true, build_f3, bsf]
            obtain ⟨v2, h2, e2', O2, C2, R2, ev2⟩ := O.append1 (P := prog) (Ch.wf K) (Ch.le K) underlying22 elem36 fits36 (by decide) (by decide) ⟨a, b, true⟩ rfl (by omega)
            rw [e2']; clear e2'
            have KK := K.step C2 fun b hb => hb.2
            have R'' : FR h2 v l := RS.keeps R KK
            obtain ⟨G0, G1, G2, G3⟩ := R''.flds hx
            simp (disch := omega) only [wk, wt, wl, ↓reduceIte, Nat.reduceEqDiff, Nat.reduceAdd, Nat.zero_add, not_false_eq_true, not_true_eq_false, t0, t10, t8, t9, t1, t2, IX, G3, bsf]
            obtain ⟨v3, h3, e3', O3, C3, R3, ev3⟩ := O2.append1 (P := prog) (Ch.wf KK) (Ch.le KK) underlying22 elem36 fits36 (by decide) (by decide) f rfl (by simp only [List.length_append, List.length_singleton]; omega)
            rw [e3']; clear e3'
            rw [outM_at hx] at O3
            have K3 := KK.step C3 fun b hb => hb.2
            simp (disch := omega) only [wk, wt, wl, ↓reduceIte, Nat.reduceEqDiff, Nat.reduceAdd, Nat.zero_add, not_false_eq_true, not_true_eq_false, t0, t10, t8, t9, t1, t2, IntWalk.i64_in, intOf_int]
            exact ⟨⟨K3, i + 1, v3, by simp, rfl, by rw [decide_eq_true (by omega)], by omega, O3, fun _ => by simp [hx, hfb]⟩, by omega⟩
        · have hpi : p < i := by omega
          have hpl : p < l.length := by omega
          have g2 := any_not (hno hpi) _ (List.getElem?_eq_getElem hpl)
          have g3 := r2 p i _ f hpi (List.getElem?_eq_getElem hpl) hx
          have g4 := r1 p _ (List.getElem?_eq_getElem hpl)
          have e1 : decide (f.fr ≤ b) = false := decide_eq_false (by omega)
          have e3 : decide (p < i) = true := decide_eq_true hpi
          simp (disch := omega) only [wk, wt, wl, ↓reduceIte, Nat.reduceEqDiff, Nat.reduceAdd, Nat.zero_add, not_false_eq_true, not_true_eq_false, t0, t10, t8, t9, t1, t2, IX, F0, F1, F3, e1, e3, Bool.not_false, Bool.not_true, bsf]
          obtain ⟨v2, h2, e2', O2, C2, R2, ev2⟩ := O.append1 (P := prog) (Ch.wf K) (Ch.le K) underlying22 elem36 fits36 (by decide) (by decide) f rfl (by omega)
          rw [e2']; clear e2'
          rw [outM_high hx hpi] at O2
          have KK := K.step C2 fun b hb => hb.2
          simp (disch := omega) only [wk, wt, wl, ↓reduceIte, Nat.reduceEqDiff, Nat.reduceAdd, Nat.zero_add, not_false_eq_true, not_true_eq_false, t0, t10, t8, t9, t1, t2, IntWalk.i64_in, intOf_int]
          exact ⟨⟨KK, i + 1, v2, by simp, rfl, by rw [decide_eq_true (by omega), decide_eq_true (by omega)], by omega, O2, fun _ => hno hpi⟩, by omega⟩
    · obtain rfl : i = l.length := by omega
      have hno' : ¬ (l[p]?.any fun f => decide (f.fr ≤ b)) = true := by
        by_cases e : p < l.length
        · exact hno e
        · rw [List.getElem?_eq_none (by omega)]; simp
      by_cases h64 : 64 ≤ l.length
      · have e1 : decide ((64 : Int) ≤ (l.length : Nat)) = true := decide_eq_true (by omega)
        have hm : makeR l a b = ([], 3) := by unfold makeR; rw [if_neg hbad, ← hp, if_neg hno', if_pos (by omega)]
        simp (disch := omega) only [wk, wt, wl, ↓reduceIte, Nat.reduceEqDiff, Nat.reduceAdd, Nat.zero_add, not_false_eq_true, not_true_eq_false, t0, t10, t8, t9, t1, t2, R'.len underlying22, e1]
        rw [hm]
        exact ⟨_, rfl, Rd.nil0, K⟩
      · have e1 : decide ((64 : Int) ≤ (l.length : Nat)) = false := decide_eq_false (by omega)
        have hm : makeR l a b = (l.take p ++ ⟨a, b, true⟩ :: l.drop p, 0) := by unfold makeR; rw [if_neg hbad, ← hp, if_neg hno', if_neg (by omega)]
        by_cases hpl : p < l.length
        · have e3 : decide (p < l.length) = true := decide_eq_true hpl
          simp (disch := omega) only [wk, wt, wl, ↓reduceIte, Nat.reduceEqDiff, Nat.reduceAdd, Nat.zero_add, not_false_eq_true, not_true_eq_false, t0, t10, t8, t9, t1, t2, R'.len underlying22, e1, e3, Bool.not_true]
          rw [hm]
          rw [outM_end hpl] at O
          exact ⟨_, rfl, O.rs, K⟩
        · obtain rfl : p = l.length := by omega
          have e3 : decide (l.length < l.length) = false := decide_eq_false (by omega)
          simp (disch := omega) only [wk, wt, wl, ↓reduceIte, Nat.reduceEqDiff, Nat.reduceAdd, Nat.zero_add, not_false_eq_true, not_true_eq_false, t0, t10, t8, t9, t1, t2, R'.len underlying22, e1, e3, Bool.not_false, build_f3, bsf]
          rw [outM_whole] at O
          obtain ⟨v2, h2, e2', O2, C2, R2, ev2⟩ := O.append1 (P := prog) (Ch.wf K) (Ch.le K) underlying22 elem36 fits36 (by decide) (by decide) ⟨a, b, true⟩ rfl (by omega)
          rw [e2']; clear e2'
          have KK := K.step C2 fun b hb => hb.2
          simp (disch := omega) only [wk, wt, wl, ↓reduceIte, Nat.reduceEqDiff, Nat.reduceAdd, Nat.zero_add, not_false_eq_true, not_true_eq_false, t0, t10, t8, t9, t1, t2]
          rw [hm, List.take_length, List.drop_length]
          exact ⟨_, rfl, O2.rs, KK⟩
theorem refDrop_ok {v : Value} {l : List F} {x : Int} {h : Heap} (R : FR h v l) (hl : l.length ≤ 9223372036854775807) :
    ACalls prog 26 #[v, .int .i64 x] h (fun y h' => ∃ u, y = .tuple #[u, .int .i64 (dropR l x).2] ∧ FR h' u (dropR l x).1 ∧ Keeps h h') := by
  refine acalls_of_W' func26 rfl (by kernel_rfl) (by kernel_rfl) (by simp [ntmps26]) ?_
  intro H
  simp only [wk, wt, wl, ↓reduceIte, Nat.reduceEqDiff, Nat.reduceAdd, Nat.zero_add, not_false_eq_true, not_true_eq_false]
  refine (refRight_ok R hl).use_pure ?_
  unfold dropR
  cases hr : rightB l with
  | false =>
    simp only [if_true]
    simp only [wk, wt, wl, ↓reduceIte, Nat.reduceEqDiff, Nat.reduceAdd, Nat.zero_add, not_false_eq_true, not_true_eq_false, Bool.not_false]
    exact ⟨_, rfl, Rd.nil0, Keeps.refl H⟩
  | true =>
    obtain ⟨r1, r2, r3⟩ := rightB_at hr
    simp only [Bool.true_eq_false, if_false]
    simp only [wk, wt, wl, ↓reduceIte, Nat.reduceEqDiff, Nat.reduceAdd, Nat.zero_add, not_false_eq_true, not_true_eq_false, Bool.not_true]
    refine (refIn_ok R hl).use_pure ?_
    cases e : inF l x with
    | none =>
      have d1 : decide (idxV none < 0) = true := by decide
      simp only [wk, wt, wl, ↓reduceIte, Nat.reduceEqDiff, Nat.reduceAdd, Nat.zero_add, not_false_eq_true, not_true_eq_false, d1]
      exact ⟨_, rfl, Rd.nil0, Keeps.refl H⟩
    | some k =>
      obtain ⟨f0, hf0, _⟩ := inF_some e
      have hk := (List.getElem?_eq_some_iff.1 hf0).1
      have ek : idxV (some k) = (k : Int) := rfl
      have d1 : decide ((k : Int) < 0) = false := decide_eq_false (by omega)
      rw [ek]
      have SH := Rd.sliceHi R underlying22 asz36 (q' := .i64) (j := (k : Int)) (by omega) (by omega)
      have SL := Rd.sliceLo R underlying22 asz36 (q := .i64) (i := (k : Int) + 1) (by omega) (by omega)
      have RH := RS.part R cF_len (L := 0) (H := k) (by omega) (by omega)
      have RL := RS.part R cF_len (L := k + 1) (H := l.length) (by omega) (by omega)
      rw [List.drop_zero, Nat.sub_zero] at RH
      rw [List.take_of_length_le (by rw [List.length_drop]; omega)] at RL
      have ek1 : ((k : Int) + 1).toNat = k + 1 := by omega
      simp only [Int.toNat_natCast, ek1] at SH SL
      have K1 := Keeps.new H 36 []
      have O1 : OS prog h.size (h.new 36 []) 3 cF (.slice (some ⟨h.size, 0, none⟩) 0 1) ([] : List F) := Own.new H (Nat.le_refl _) asz36 (by simp)
      have hlk : (l.take k).length = k := by rw [List.length_take]; omega
      obtain ⟨v2, h2, e2, O2, R2, C2, _⟩ := O1.appendRS (P := prog) (Ch.wf K1) (Ch.le K1) underlying22 elem36 fits36 (by decide) (RS.keeps RH K1) (by rw [hlk]; simp only [List.length_nil]; omega)
      rw [List.nil_append] at O2
      have K2 := K1.step C2 fun b hb => hb.2
      obtain ⟨v3, h3, e3, O3, R3, C3, _⟩ := O2.appendRS (P := prog) (Ch.wf K2) (Ch.le K2) underlying22 elem36 fits36 (by decide) (RS.keeps RL K2) (by rw [hlk, List.length_drop]; omega)
      have K3 := K2.step C3 fun b hb => hb.2
      simp only [wk, wt, wl, ↓reduceIte, Nat.reduceEqDiff, Nat.reduceAdd, Nat.zero_add, not_false_eq_true, not_true_eq_false, d1]
      refine adraw_order [(1, false), (2, false), (3, false), (5, false), (6, false), (7, false), (8, false), (0, true), (4, true), (9, true), (10, false), (11, false)] mixed (by kernel_rfl) (by kernel_rfl) (by kernel_rfl) (by with_reducible repeat (first | exact PF_retK | refine PF_thenK ?_ | refine PF_blockK ?_)) ?_
      simp (disch := omega) only [wk, wt, wl, ↓reduceIte, Nat.reduceEqDiff, Nat.reduceAdd, Nat.zero_add, not_false_eq_true, not_true_eq_false, dK_t, SH, SL, build0 underlying22 asz36, IntWalk.i64_in, e2, e3]
      refine ⟨K1.reads H, R2, R3, _, rfl, O3.rs, K3⟩
theorem refSet_ok {v : Value} {l : List F} {x : Int} {c : Bool} {h : Heap} (R : FR h v l) (hl : l.length ≤ 9223372036854775807) :
    ACalls prog 28 #[v, .int .i64 x, .bool c] h (fun y h' => ∃ u, y = .tuple #[u, .int .i64 (setR l x c).2] ∧ FR h' u (setR l x c).1 ∧ Keeps h h') := by
  refine acalls_of_W' func28 rfl (by kernel_rfl) (by kernel_rfl) (by simp [ntmps28]) ?_
  intro H
  simp only [wk, wt, wl, ↓reduceIte, Nat.reduceEqDiff, Nat.reduceAdd, Nat.zero_add, not_false_eq_true, not_true_eq_false]
  refine (refRight_ok R hl).use_pure ?_
  unfold setR
  cases hr : rightB l with
  | false =>
    simp only [if_true]
    simp only [wk, wt, wl, ↓reduceIte, Nat.reduceEqDiff, Nat.reduceAdd, Nat.zero_add, not_false_eq_true, not_true_eq_false, Bool.not_false]
    exact ⟨_, rfl, Rd.nil0, Keeps.refl H⟩
  | true =>
    obtain ⟨r1, r2, r3⟩ := rightB_at hr
    simp only [Bool.true_eq_false, if_false]
    simp only [wk, wt, wl, ↓reduceIte, Nat.reduceEqDiff, Nat.reduceAdd, Nat.zero_add, not_false_eq_true, not_true_eq_false, Bool.not_true]
    refine (refIn_ok R hl).use_pure ?_
    cases e : inF l x with
    | none =>
      have d1 : decide (idxV none < 0) = true := by decide
      simp only [wk, wt, wl, ↓reduceIte, Nat.reduceEqDiff, Nat.reduceAdd, Nat.zero_add, not_false_eq_true, not_true_eq_false, d1]
      exact ⟨_, rfl, Rd.nil0, Keeps.refl H⟩
    | some k =>
      obtain ⟨f0, hf0, _⟩ := inF_some e
      have hk := (List.getElem?_eq_some_iff.1 hf0).1
      have ek : idxV (some k) = (k : Int) := rfl
      have d1 : decide ((k : Int) < 0) = false := decide_eq_false (by omega)
      rw [ek]
      simp only [wk, wt, wl, ↓reduceIte, Nat.reduceEqDiff, Nat.reduceAdd, Nat.zero_add, not_false_eq_true, not_true_eq_false, d1, build0 underlying22 asz36]
      obtain ⟨v4, h4, e4, O4, P4, hz, _, K4⟩ := copyF H R (by omega)
      rw [e4]; clear e4
      have R4 : FR h4 v4 l := O4.rs
      have IX := Rd.index R4 underlying22 asz36 (q := .i64) (i := (k : Int)) (by omega) (by omega)
      simp only [Int.toNat_natCast] at IX
      obtain ⟨h5, e5, R5, C5⟩ := store_cl (c := c) (Ch.wf K4) (P4 (by omega)) hf0
      simp only [wk, wt, wl, ↓reduceIte, Nat.reduceEqDiff, Nat.reduceAdd, Nat.zero_add, not_false_eq_true, not_true_eq_false, IX, e5]
      exact ⟨_, rfl, R5, K4.step C5 fun x hx => fam_ge K4 hz x hx⟩
end Go.Proofs.Ytgfccaaalkkdlaa.Am
end
section
/- Folds made, dropped, closed or opened: FoldMakes answers true. -/
set_option linter.unusedSimpArgs false
set_option linter.unusedVariables false
set_option maxHeartbeats 4000000
set_option maxRecDepth 20000
namespace Go.Proofs.Ytgfccaaalkkdlaa.Am
open Go Go.RowKit Go.Proofs.Try
theorem eql_bool {x : Bool} : abin prog .eql 4 (.bool x) (.bool x) = some (.bool true) := by simp [abin, aeq, underlying4]
theorem foldMakes_law {h : Heap} {v : Value} {l : List F} {a b : Int} {c : Bool} (R : FR h v l) (hl : l.length ≤ 1048576) :
    ACalls prog 6 #[v, .agg #[.int .i64 a, .int .i64 b], .bool c] h (fun y h' => y = .bool true ∧ Keeps h h') := by
  refine acalls_of_W' func6 rfl (by kernel_rfl) (by kernel_rfl) (by simp [ntmps6]) ?_
  intro H
  have K0 := Keeps.new H 37 [.int .i64 a, .int .i64 b]
  have V0 := Var.new (e := 37) H (cs := [.int .i64 a, .int .i64 b])
  have hb : ∀ tm : Tm, tm 1 = .agg #[.int .i64 a, .int .i64 b] → aeff prog tm h (.box 37 (.tmp 1)) = some (.pointer (some ⟨h.size, 0, none⟩), h.new 37 [.int .i64 a, .int .i64 b]) := fun tm ht => box_new (by simp [ev, ht, Value.cells]) ⟨_, asz37⟩ (by show (Value.cells (tm 1)).all one = true; rw [ht]; simp [Value.cells, one])
  have I0 : aindexAddr prog 37 (.pointer (some ⟨h.size, 0, none⟩)) (.int .i64 0) = some (.pointer (some ⟨h.size, 0, none⟩)) := arr_index underlying37 asz3 (by omega) (by omega)
  have I1 : aindexAddr prog 37 (.pointer (some ⟨h.size, 0, none⟩)) (.int .i64 1) = some (.pointer (some ⟨h.size, 1, none⟩)) := arr_index underlying37 asz3 (by omega) (by omega)
  have WV := fun {hh : Heap} (V : Var hh h.size [.int .i64 a, .int .i64 b]) => And.intro (V.load1 (P := prog) (t := 3) underlying3 rfl (i := 0)) (V.load1 (P := prog) (t := 3) underlying3 rfl (i := 1))
  simp only [List.getElem?_cons_succ, List.getElem?_cons_zero] at WV
  have R0 : FR (h.new 37 [.int .i64 a, .int .i64 b]) v l := RS.keeps R K0
  simp only [wk, wt, wl, ↓reduceIte, Nat.reduceEqDiff, Nat.reduceAdd, Nat.zero_add, not_false_eq_true, not_true_eq_false, hb (atm #[v, .agg #[.int .i64 a, .int .i64 b], .bool c]) rfl, I0, WV V0]
  refine (near_ok R0 (by omega)).use_pure ?_
  cases n1 : nearB l a with
  | false =>
    simp only [wk, wt, wl, ↓reduceIte, Nat.reduceEqDiff, Nat.reduceAdd, Nat.zero_add, not_false_eq_true, not_true_eq_false, Bool.not_false]
    exact K0
  | true =>
    simp only [wk, wt, wl, ↓reduceIte, Nat.reduceEqDiff, Nat.reduceAdd, Nat.zero_add, not_false_eq_true, not_true_eq_false, Bool.not_true, I1, WV V0]
    refine (near_ok R0 (by omega)).use_pure ?_
    cases n2 : nearB l b with
    | false =>
      simp only [wk, wt, wl, ↓reduceIte, Nat.reduceEqDiff, Nat.reduceAdd, Nat.zero_add, not_false_eq_true, not_true_eq_false, Bool.not_false]
      exact K0
    | true =>
      simp only [wk, wt, wl, ↓reduceIte, Nat.reduceEqDiff, Nat.reduceAdd, Nat.zero_add, not_false_eq_true, not_true_eq_false, Bool.not_true, build0 underlying22 asz36]
      obtain ⟨mv, h1, e1, O1, _, _, _, K1⟩ := copyF (Ch.wf K0) R0 hl
      rw [e1]; clear e1
      have K01 := K0.trans K1
      have V1 := Keeps.var (Ch.wf K0) K1 V0
      have M1 : FR h1 mv l := O1.rs
      have R1 : FR h1 v l := RS.keeps R K01
      simp only [wk, wt, wl, ↓reduceIte, Nat.reduceEqDiff, Nat.reduceAdd, Nat.zero_add, not_false_eq_true, not_true_eq_false, I0, I1, WV V1]
      refine (make_ok (a := a) (b := b) M1 (by omega)).use ?_
      rintro _ h2 ⟨u2, rfl, U2, K2⟩
      have V2 := Keeps.var (Ch.wf K1) K2 V1
      have R2 : FR h2 v l := RS.keeps R1 K2
      simp only [wk, wt, wl, ↓reduceIte, Nat.reduceEqDiff, Nat.reduceAdd, Nat.zero_add, not_false_eq_true, not_true_eq_false, I0, I1, WV V2]
      refine (refMake_ok (a := a) (b := b) R2 (by omega)).use ?_
      rintro _ h3 ⟨u3, rfl, U3, K3⟩
      have V3 := Keeps.var (Ch.wf K2) K3 V2
      have K23 := K2.trans K3
      have M3 : FR h3 mv l := RS.keeps M1 K23
      simp only [wk, wt, wl, ↓reduceIte, Nat.reduceEqDiff, Nat.reduceAdd, Nat.zero_add, not_false_eq_true, not_true_eq_false, I0, I1, WV V3]
      refine (drop_ok (x := a) M3 (by omega)).use ?_
      rintro _ h4 ⟨u4, rfl, U4, K4⟩
      have V4 := Keeps.var (Ch.wf K3) K4 V3
      have R4 : FR h4 v l := RS.keeps R2 (K3.trans K4)
      simp only [wk, wt, wl, ↓reduceIte, Nat.reduceEqDiff, Nat.reduceAdd, Nat.zero_add, not_false_eq_true, not_true_eq_false, I0, I1, WV V4]
      refine (refDrop_ok (x := a) R4 (by omega)).use ?_
      rintro _ h5 ⟨u5, rfl, U5, K5⟩
      have V5 := Keeps.var (Ch.wf K4) K5 V4
      have M5 : FR h5 mv l := RS.keeps M3 (K4.trans K5)
      simp only [wk, wt, wl, ↓reduceIte, Nat.reduceEqDiff, Nat.reduceAdd, Nat.zero_add, not_false_eq_true, not_true_eq_false, I0, I1, WV V5]
      refine (set_ok (x := b) (c := c) M5 (by omega)).use ?_
      rintro _ h6 ⟨u6, rfl, U6, K6⟩
      have V6 := Keeps.var (Ch.wf K5) K6 V5
      have R6 : FR h6 v l := RS.keeps R4 (K5.trans K6)
      simp only [wk, wt, wl, ↓reduceIte, Nat.reduceEqDiff, Nat.reduceAdd, Nat.zero_add, not_false_eq_true, not_true_eq_false, I0, I1, WV V6]
      refine (refSet_ok (x := b) (c := c) R6 (by omega)).use ?_
      rintro _ h7 ⟨u7, rfl, U7, K7⟩
      have M7 : FR h7 mv l := RS.keeps M5 (K6.trans K7)
      simp only [wk, wt, wl, ↓reduceIte, Nat.reduceEqDiff, Nat.reduceAdd, Nat.zero_add, not_false_eq_true, not_true_eq_false]
      refine (right_ok M7 (by omega)).use ?_
      rintro _ h8 ⟨rfl, K8⟩
      have K28 := ((K23.trans K4).trans K5).trans ((K6.trans K7).trans K8)
      have R8 : FR h8 v l := RS.keeps R1 K28
      have M8 : FR h8 mv l := RS.keeps M7 K8
      have A2 : FR h8 u2 (makeR l a b).1 := RS.keeps U2 (((K3.trans K4).trans K5).trans ((K6.trans K7).trans K8))
      have A3 : FR h8 u3 (makeR l a b).1 := RS.keeps U3 ((K4.trans K5).trans ((K6.trans K7).trans K8))
      have A4 : FR h8 u4 (dropR l a).1 := RS.keeps U4 (K5.trans ((K6.trans K7).trans K8))
      have A5 : FR h8 u5 (dropR l a).1 := RS.keeps U5 ((K6.trans K7).trans K8)
      have A6 : FR h8 u6 (setR l b c).1 := RS.keeps U6 (K7.trans K8)
      have A7 : FR h8 u7 (setR l b c).1 := RS.keeps U7 K8
      have K08 := K01.trans K28
      clear U2 U3 U4 U5 U6 U7 M1 M3 M5 M7 R0 R1 R2 R4 R6 V0 V1 V2 V3 V4 V5 V6 O1
      have lm : (makeR l a b).1.length ≤ 1048577 := by
        unfold makeR; repeat' split
        all_goals first
          | (simp only [List.length_nil]; omega)
          | (simp only [List.length_append, List.length_take, List.length_cons, List.length_drop]; omega)
      have ld : (dropR l a).1.length ≤ 1048577 := by
        unfold dropR; repeat' split
        all_goals first
          | (simp only [List.length_nil]; omega)
          | (simp only [List.length_append, List.length_take, List.length_cons, List.length_drop]; omega)
      have ls : (setR l b c).1.length ≤ 1048577 := by
        unfold setR; repeat' split
        all_goals first
          | (simp only [List.length_nil]; omega)
          | (simp only [shut_len]; omega)
      generalize (makeR l a b).2 = me at *
      generalize (dropR l a).2 = de at *
      generalize (setR l b c).2 = se at *
      simp only [wk, wt, wl, ↓reduceIte, Nat.reduceEqDiff, Nat.reduceAdd, Nat.zero_add, not_false_eq_true, not_true_eq_false]
      refine (refRight_ok R8 (by omega)).use_pure ?_
      simp only [wk, wt, wl, ↓reduceIte, Nat.reduceEqDiff, Nat.reduceAdd, Nat.zero_add, not_false_eq_true, not_true_eq_false, eql_bool, decide_true]
      refine (sameF_ok A2 A3 (by omega)).use_pure ?_
      simp only [wk, wt, wl, ↓reduceIte, Nat.reduceEqDiff, Nat.reduceAdd, Nat.zero_add, not_false_eq_true, not_true_eq_false]
      refine (sameF_ok A4 A5 (by omega)).use_pure ?_
      simp only [wk, wt, wl, ↓reduceIte, Nat.reduceEqDiff, Nat.reduceAdd, Nat.zero_add, not_false_eq_true, not_true_eq_false]
      refine (sameF_ok A6 A7 (by omega)).use_pure ?_
      simp only [wk, wt, wl, ↓reduceIte, Nat.reduceEqDiff, Nat.reduceAdd, Nat.zero_add, not_false_eq_true, not_true_eq_false]
      refine (sameF_ok M8 R8 (by omega)).use_pure ?_
      simp only [wk, wt, wl, ↓reduceIte, Nat.reduceEqDiff, Nat.reduceAdd, Nat.zero_add, not_false_eq_true, not_true_eq_false]
      refine awake_ok.use ?_
      rintro _ h9 ⟨rfl, K9⟩
      simp only [wk, wt, wl, ↓reduceIte, Nat.reduceEqDiff, Nat.reduceAdd, Nat.zero_add, not_false_eq_true, not_true_eq_false]
      exact K08.trans K9
end Go.Proofs.Ytgfccaaalkkdlaa.Am
end
