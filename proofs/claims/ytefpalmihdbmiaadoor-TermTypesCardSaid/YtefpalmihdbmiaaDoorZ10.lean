/- The texts of this seat, one behind another (part 10 of 10): the frame (an abstract machine), the contracts of functions, the laws. -/
import Derived.Test.YtefpalmihdbmiaaDoorZ9
import Derived.Test.YtefpalmihdbmiaaDoorAmDraw4
section
/- The document's terminal: the contract of typed, by a walk. -/
set_option linter.unusedSimpArgs false
set_option linter.unusedVariables false
set_option maxHeartbeats 4000000
set_option maxRecDepth 20000
namespace Go.Proofs.YtefpalmihdbmiaaDoor.Am
open Go Go.RowKit Go.Proofs.Tryd
theorem refWipeI_ok {h : Heap} {Fs : Nat → Prop} {x : Nat} {X : TX} {F T : Nat} (P : DY h Fs x X) (I : Inv X) (hT : T ≤ X.cells.length) :
    ACalls prog 70 #[pt x, .int .i64 F, .int .i64 T] h (fun y h' => y = .tuple #[] ∧ DY h' Fs x { X with cells := wipeL X.cells F T } ∧ Ch (Rg Fs h) h h') := by
  obtain ⟨A, hA, hAl, hlen, _⟩ := I.rowA
  refine refWipe_ok P hT hlen (fun hlt he => ?_) (fun hlt he => ?_)
  · have hi : F < X.cells.length := by omega
    have hx : X.cells[F]? = some X.cells[F] := List.getElem?_eq_getElem hi
    rw [getD_at hx] at he
    obtain ⟨j, d, h1, _⟩ := I.emp _ _ hx he
    omega
  · have hi : T - 1 < X.cells.length := by omega
    have hx : X.cells[T - 1]? = some X.cells[T - 1] := List.getElem?_eq_getElem hi
    rw [getD_at hx] at he
    obtain ⟨d, h1, _⟩ := I.wid _ _ hx he
    have := (List.getElem?_eq_some_iff.1 h1).1
    omega
theorem grow2 {h hA : Heap} {b0 tv : Value} {tx : List Int} (H : Wf h) (KA : Keeps h hA) (O0 : Own prog h.size hA 1 b0 0 []) (hb0 : ∀ z, blkOf b0 = some z → h.size ≤ z) (RT : RdI prog h .i32 tv tx) (hl : tx.length ≤ 1000) :
    ∃ v2 h2, aappend prog hA 44 44 b0 tv = some (v2, h2) ∧ Own prog h.size h2 1 v2 tx.length (tx.map (Value.int .i32)) ∧ Keeps h h2 ∧ Reads hA h2 ∧ (∀ z, blkOf v2 = some z → h.size ≤ z) ∧ hA.size ≤ h2.size := by
  obtain ⟨v2, h2, e2, O2, R2, C2, hv⟩ := O0.appendRd (P := prog) (Ch.wf KA) (Ch.le KA) underlying44 underlying44 rfl elem21 fits21 (by decide) (RT.keeps KA) (by omega)
  rw [Nat.zero_add, List.nil_append] at O2
  exact ⟨v2, h2, e2, O2, KA.step C2 fun b hb => hb.2, R2, fun z hz => by
    rcases hv with rfl | rfl | rfl
    · exact hb0 z hz
    · cases hz
    · have := blk_new z hz; have := Ch.le KA; omega, Ch.le C2⟩
theorem grow1 {h h2 : Heap} {v2 xv : Value} {tx : List Int} {r : Int} (K2 : Keeps h h2) (O2 : Own prog h.size h2 1 v2 tx.length (tx.map (Value.int .i32))) (hb2 : ∀ z, blkOf v2 = some z → h.size ≤ z) (RX : Rd prog h2 1 xv 1 [.int .i32 r]) (hl : tx.length ≤ 1000) :
    ∃ v3 h3, aappend prog h2 44 44 v2 xv = some (v3, h3) ∧ RdI prog h3 .i32 v3 (tx ++ [r]) ∧ Keeps h h3 ∧ Reads h2 h3 ∧ (∀ z, blkOf v3 = some z → h.size ≤ z) := by
  obtain ⟨v3, h3, e3, O3, R3, C3, hv⟩ := O2.appendRd (P := prog) (Ch.wf K2) (Ch.le K2) underlying44 underlying44 rfl elem21 fits21 (by decide) RX (by omega)
  exact ⟨v3, h3, e3, by have := O3.1; simpa [RdI] using this, K2.step C3 fun b hb => hb.2, R3, fun z hz => by
    rcases hv with rfl | rfl | rfl
    · exact hb2 z hz
    · cases hz
    · have := blk_new z hz; have := Ch.le K2; omega⟩
theorem storeField {h : Heap} {t : TypeId} {a : Addr} {v : Value} : storeV prog h t (.pointer (some ⟨a.block, a.off + 0, none⟩)) v = storeV prog h t (.pointer (some ⟨a.block, a.off, none⟩)) v := by rw [Nat.add_zero]
theorem typed_bad {h : Heap} {Fs : Nat → Prop} {x : Nat} {X : TX} {r : Int} (P : DY h Fs x X) (hr : isR r) (hs : showL r ≠ [r]) :
    ACalls prog 58 #[pt x, .int .i32 r] h (fun y h' => y = .tuple #[] ∧ DY h' Fs x (putX X r) ∧ Ch (Rg Fs h) h h') := by
  refine acalls_of_W' func58 rfl (by kernel_rfl) (by kernel_rfl) (by simp [ntmps58]) ?_
  intro H
  obtain ⟨cv, sv, rv, ps, C, S, R, Q⟩ := P
  simp only [wk, wt, wl, ↓reduceIte, Nat.reduceEqDiff, Nat.reduceAdd, Nat.zero_add, not_false_eq_true, not_true_eq_false]
  refine (refShow_ok hr).use_pure ?_
  have N1 := Keeps.new H 21 ((showL r).map (Value.int .i32))
  have R1 : RdI prog (h.new 21 ((showL r).map (Value.int .i32))) .i32 (.slice (some ⟨h.size, 0, none⟩) (showL r).length ((showL r).length + 1)) (showL r) := rdI_new H
  have Q1 := Q.keeps H N1
  obtain ⟨h2, e2, V2, C2, z2⟩ := Q1.var.store1 (P := prog) (t := 3) (v := .int .i64 (-1)) (i := 7) (Ch.wf N1) asz3 (by simp [dF]) rfl
  obtain ⟨Q2, D2⟩ := Q1.own (X' := { X with last := none }) (Ch.wf N1) C2 V2 rfl rfl rfl
  have hp : putX X r = { X with last := none } := by unfold putX; rw [if_pos hs]
  rw [hp]
  have LL := R1.len underlying44
  have fin : DY h2 Fs x { X with last := none } ∧ Ch (Rg Fs h) h h2 := ⟨⟨_, _, _, _, _, _, _, Q2⟩, N1.rg.thenR D2⟩
  rcases show_cases r with g | ⟨_, g⟩ | ⟨y, g, hx⟩
  · exact absurd g hs
  · have d1 : decide (¬ ((showL r).length : Int) = 1) = true := decide_eq_true (by omega)
    simp only [wk, wt, wl, ↓reduceIte, Nat.reduceEqDiff, Nat.reduceAdd, Nat.zero_add, not_false_eq_true, not_true_eq_false, LL, d1, pt, e2]
    exact fin
  · have d1 : decide (¬ ((showL r).length : Int) = 1) = false := decide_eq_false (by rw [g]; simp)
    have IX := R1.index underlying44 asz21 (q := .i64) (i := (0 : Int)) (by omega) (by rw [g]; simp)
    have LX := R1.at (i := 0) (t := 21) underlying21 rfl (by rw [g]; simp)
    have hx0 : (showL r).getD 0 0 = y := by rw [g]; rfl
    rw [hx0] at LX
    simp only [show (0 : Int).toNat = 0 from rfl] at IX
    have d2 : decide (¬ y = r) = true := decide_eq_true hx
    simp only [wk, wt, wl, ↓reduceIte, Nat.reduceEqDiff, Nat.reduceAdd, Nat.zero_add, not_false_eq_true, not_true_eq_false, LL, d1, IX, LX, d2, pt, e2]
    exact fin
theorem typed_zero {h : Heap} {Fs : Nat → Prop} {x : Nat} {X : TX} {r : Int} (P : DY h Fs x X) (I : Inv X) (hr : isR r) (hs : showL r = [r]) (hw : widthZ r = 0) :
    ACalls prog 58 #[pt x, .int .i32 r] h (fun y h' => y = .tuple #[] ∧ DY h' Fs x (putX X r) ∧ Ch (Rg Fs h) h h') := by
  refine acalls_of_W' func58 rfl (by kernel_rfl) (by kernel_rfl) (by simp [ntmps58]) ?_
  intro H
  obtain ⟨cv, sv, rv, ps, C, S, R, Q⟩ := P
  simp only [wk, wt, wl, ↓reduceIte, Nat.reduceEqDiff, Nat.reduceAdd, Nat.zero_add, not_false_eq_true, not_true_eq_false]
  refine (refShow_ok hr).use_pure ?_
  rw [hs]
  have N1 := Keeps.new H 21 ([r].map (Value.int .i32))
  have R1 : RdI prog (h.new 21 ([r].map (Value.int .i32))) .i32 (.slice (some ⟨h.size, 0, none⟩) [r].length ([r].length + 1)) [r] := rdI_new H
  have Q1 := Q.keeps H N1
  have LL := R1.len underlying44
  have IX := R1.index underlying44 asz21 (q := .i64) (i := (0 : Int)) (by omega) (by simp)
  have LX := R1.at (i := 0) (t := 21) underlying21 rfl (by simp)
  have hx0 : [r].getD 0 0 = r := rfl
  rw [hx0] at LX
  simp only [show (0 : Int).toNat = 0 from rfl] at IX
  have d1 : decide (¬ (([r].length : Nat) : Int) = 1) = false := decide_eq_false (by simp)
  have d2 : decide (¬ r = r) = false := decide_eq_false (by simp)
  generalize h.new 21 ([r].map (Value.int .i32)) = h1 at *
  simp only [wk, wt, wl, ↓reduceIte, Nat.reduceEqDiff, Nat.reduceAdd, Nat.zero_add, not_false_eq_true, not_true_eq_false, LL, d1, IX, LX, d2]
  refine refWidth_ok.use_pure ?_
  obtain ⟨l0, l1, l2, l3, l4, l5, l6, l7, l8, l9, l10⟩ := Q1.load
  have d3 : decide (widthZ r = 0) = true := decide_eq_true hw
  simp only [wk, wt, wl, ↓reduceIte, Nat.reduceEqDiff, Nat.reduceAdd, Nat.zero_add, not_false_eq_true, not_true_eq_false, d3, pt]
  refine adraw_order [(0, false), (1, false), (2, false), (3, false), (4, false), (5, false), (6, false), (7, false), (8, false), (9, false), (10, false), (11, false), (12, false), (13, false), (14, false), (15, false), (16, false), (17, false), (18, false), (19, false), (20, false)] mixed (by kernel_rfl) (by kernel_rfl) (by kernel_rfl) (by with_reducible repeat (first | exact PF_retK | refine PF_thenK ?_ | refine PF_blockK ?_)) ?_
  cases hl : X.last with
  | none =>
    have hp : putX X r = X := by unfold putX; rw [if_neg (fun e => e hs), if_pos hw, hl]
    rw [hp]
    rw [hl] at l7
    have d4 : decide ((0 : Int) ≤ -1) = false := by decide
    simp only [lastZ] at l7
    simp only [wk, wt, wl, ↓reduceIte, Nat.reduceEqDiff, Nat.reduceAdd, Nat.zero_add, not_false_eq_true, not_true_eq_false, dK_t, l7, pt, d4]
    exact ⟨⟨_, _, _, _, _, _, _, Q1⟩, N1.rg⟩
  | some i =>
    have hi : i < X.cells.length := by
      obtain ⟨c0, hc0, _⟩ := I.last i hl
      exact (List.getElem?_eq_some_iff.1 hc0).1
    obtain ⟨p, p1, p2, p3⟩ := Q1.gp.at hi
    obtain ⟨a1, a2, a3, a4, a5⟩ := Q1.gp.loads p1
    have RT := Q1.gp.rd p p3
    have LT := RT.len underlying44
    have IC := Q1.gp.index (z := (i : Int)) (by omega) (by omega)
    simp only [Int.toNat_natCast] at IC
    rw [hl] at l7
    simp only [lastZ] at l7
    have d4 : decide ((0 : Int) ≤ (i : Int)) = true := decide_eq_true (by omega)
    by_cases h3 : p.2.tx.length ≤ 2
    · have d5 : decide ((p.2.tx.length : Int) ≤ 2) = true := decide_eq_true (by omega)
      have hp : putX X r = { X with cells := X.cells.set i { p.2 with tx := p.2.tx ++ [r] } } := by unfold putX; rw [if_neg (fun e => e hs), if_pos hw, hl]; simp only [getD_at p2]; rw [if_pos h3]
      rw [hp]
      have H1 := Ch.wf N1
      have fin : ∀ {h3 : Heap} {v3 : Value}, Keeps h1 h3 → RdI prog h3 .i32 v3 (p.2.tx ++ [r]) → (∀ z, blkOf v3 = some z → h1.size ≤ z) → ∃ h4, storeV prog h3 44 (.pointer (some ⟨(eltA cv 3 i).block, (eltA cv 3 i).off + 0, none⟩)) v3 = some (undef, h4) ∧ DY h4 Fs x { X with cells := X.cells.set i { p.2 with tx := p.2.tx ++ [r] } } ∧ Ch (Rg Fs h) h h4 := fun {h3 v3} K3 R3 hb3 => by
        have Q2 := Q1.keeps H1 K3
        obtain ⟨h4, es, G4, C4, z4⟩ := Q2.gp.fld (t := 44) (v := v3) (q := (v3, { p.2 with tx := p.2.tx ++ [r] })) (Ch.wf K3) (Q2.fc.mono fun n a => .inl a) p1 (by decide : 0 < 3) asz44 R3.one rfl R3 (Q1.fresh K3 hb3)
        obtain ⟨Q4, D4⟩ := Q2.cells (Ch.wf K3) C4 G4
        exact ⟨h4, es, ⟨_, _, _, _, _, _, _, Q4⟩, (N1.rg.thenR K3.rg).thenR D4⟩
      -- the three orders
      have hz0 : (h1.new 21 []).size = h1.size + 1 := rfl
      have hzx : (h1.new 21 [.int .i32 r]).size = h1.size + 1 := rfl
      have NA := Keeps.new H1 21 []
      have OA : Own prog h1.size (h1.new 21 []) 1 (.slice (some ⟨h1.size, 0, none⟩) 0 1) 0 [] := Own.new H1 (Nat.le_refl _) asz21 (by simp)
      obtain ⟨vA, hA, eA, OA2, KA, RA, bA, sA⟩ := grow2 H1 NA OA blk_new RT (by omega)
      have NA2 := Keeps.new (Ch.wf KA) 21 [.int .i32 r]
      have XA : Rd prog (hA.new 21 [.int .i32 r]) 1 (.slice (some ⟨hA.size, 0, none⟩) 1 2) 1 [.int .i32 r] := Rd.new (Ch.wf KA) asz21 rfl
      obtain ⟨wA, gA, fA, SA, KA3, RA3, cA⟩ := grow1 (KA.trans NA2) (OA2.keeps NA2) bA XA (by omega)
      obtain ⟨kA, stA, FA⟩ := fin KA3 SA cA
      have NB := Keeps.new (Ch.wf NA) 21 [.int .i32 r]
      have XB : Rd prog ((h1.new 21 []).new 21 [.int .i32 r]) 1 (.slice (some ⟨h1.size + 1, 0, none⟩) 1 2) 1 [.int .i32 r] := Rd.new (Ch.wf NA) asz21 rfl
      obtain ⟨vB, hB, eB, OB2, KB, RB, bB, sB⟩ := grow2 H1 (NA.trans NB) (OA.keeps NB) blk_new RT (by omega)
      obtain ⟨wB, gB, fB, SB, KB3, RB3, cB⟩ := grow1 KB OB2 bB (XB.reads sB RB) (by omega)
      obtain ⟨kB, stB, FB⟩ := fin KB3 SB cB
      have NC := Keeps.new H1 21 [.int .i32 r]
      have XC : Rd prog (h1.new 21 [.int .i32 r]) 1 (.slice (some ⟨h1.size, 0, none⟩) 1 2) 1 [.int .i32 r] := Rd.new H1 asz21 rfl
      have NC2 := Keeps.new (Ch.wf NC) 21 []
      have OC : Own prog h1.size ((h1.new 21 [.int .i32 r]).new 21 []) 1 (.slice (some ⟨h1.size + 1, 0, none⟩) 0 1) 0 [] := Own.new (Ch.wf NC) (by rw [hzx]; omega) asz21 (by simp)
      obtain ⟨vC, hC, eC, OC2, KC, RC, bC, sC⟩ := grow2 H1 (NC.trans NC2) OC (fun z hz => Nat.le_of_succ_le (blk_new z hz)) RT (by omega)
      obtain ⟨wC, gC, fC, SC, KC3, RC3, cC'⟩ := grow1 KC OC2 bC ((XC.keeps NC2).reads sC RC) (by omega)
      obtain ⟨kC, stC, FC⟩ := fin KC3 SC cC'
      have B0 : ∀ h : Heap, abuildSlice prog h 44 0 #[] = some (.slice (some ⟨h.size, 0, none⟩) 0 1, h.new 21 []) := fun h => build0 underlying44 asz21
      have B1 : ∀ h : Heap, abuildSlice prog h 44 1 #[(0, .int .i32 r)] = some (.slice (some ⟨h.size, 0, none⟩) 1 2, h.new 21 [.int .i32 r]) := fun h => build1 underlying44 asz21 azero21 rfl rfl
      have HR := fun {h2 : Heap} (K : Keeps h1 h2) => K.reads H1
      have ldN := fun {h2 : Heap} (K : Keeps h1 h2) => (Q1.keeps H1 K).load
      have ldC := fun {h2 : Heap} (K : Keeps h1 h2) => (((Q1.keeps H1 K).gp).loads p1).1
      simp only [wk, wt, wl, ↓reduceIte, Nat.reduceEqDiff, Nat.reduceAdd, Nat.zero_add, not_false_eq_true, not_true_eq_false, dK_t, l7, pt, d4, l2, IC, a1, a5, LT, d5]
      refine adraw_tree (.cons 0 false (.cons 1 false (.cons 2 false (.cons 3 false (.cons 4 false (.cons 5 false (.cons 6 false (.cons 7 false (.cons 8 false (.cons 10 false (.cons 11 false (.cons 12 false (.cons 13 false (.cons 14 false (.cons 15 false (.cons 16 false (.cons 17 false (.cons 18 false (.cons 19 false (.cons 20 false (.cons 21 false (.cons 23 false (.two 9 24 (.two 22 24 (.cons 24 true (.cons 25 true (.cons 26 false (.cons 27 false (.cons 28 false .nil))))) (.cons 22 true (.cons 25 true (.cons 26 false (.cons 27 false (.cons 28 false .nil)))))) (.cons 9 true (.cons 22 true (.cons 25 true (.cons 26 false (.cons 27 false (.cons 28 false .nil))))))))))))))))))))))))))))) mixed (by kernel_rfl) (by kernel_rfl) (by kernel_rfl) (by with_reducible repeat (first | exact PF_retK | refine PF_thenK ?_ | refine PF_blockK ?_)) ?_
      simp only [wk, wt, wl, ↓reduceIte, Nat.reduceEqDiff, Nat.reduceAdd, Nat.zero_add, not_false_eq_true, not_true_eq_false, TRo_nil, TRo_cons, TRo_two, trK_some, dK_t, pt, l2, l7, IC, a1, B0, B1, hz0, hzx, eA, fA, stA, eB, fB, stB, eC, fC, stC]
      exact ⟨⟨NA.reads H1, ⟨RA, NA2.reads (Ch.wf KA), RA3, FA⟩, NB.reads (Ch.wf NA), RB, RB3, FB⟩, NC.reads H1, NC2.reads (Ch.wf NC), RC, RC3, FC⟩
    · have d5 : decide ((p.2.tx.length : Int) ≤ 2) = false := decide_eq_false (by omega)
      have hp : putX X r = X := by unfold putX; rw [if_neg (fun e => e hs), if_pos hw, hl]; simp only [getD_at p2]; rw [if_neg h3]
      rw [hp]
      simp only [wk, wt, wl, ↓reduceIte, Nat.reduceEqDiff, Nat.reduceAdd, Nat.zero_add, not_false_eq_true, not_true_eq_false, dK_t, l7, pt, d4, l2, IC, a1, a5, LT, d5]
      exact ⟨⟨_, _, _, _, _, _, _, Q1⟩, N1.rg⟩
theorem typed_wide {h : Heap} {Fs : Nat → Prop} {x : Nat} {X : TX} {r : Int} (P : DY h Fs x X) (I : Inv X) (hr : isR r) (hs : showL r = [r]) (hw : widthZ r ≠ 0) :
    ACalls prog 58 #[pt x, .int .i32 r] h (fun y h' => y = .tuple #[] ∧ DY h' Fs x (putX X r) ∧ Ch (Rg Fs h) h h') := by
  refine acalls_of_W' func58 rfl (by kernel_rfl) (by kernel_rfl) (by simp [ntmps58]) ?_
  intro H
  obtain ⟨cv, sv, rv, ps, C, S, R, Q⟩ := P
  simp only [wk, wt, wl, ↓reduceIte, Nat.reduceEqDiff, Nat.reduceAdd, Nat.zero_add, not_false_eq_true, not_true_eq_false]
  refine (refShow_ok hr).use_pure ?_
  rw [hs]
  have N1 := Keeps.new H 21 ([r].map (Value.int .i32))
  have R1 : RdI prog (h.new 21 ([r].map (Value.int .i32))) .i32 (.slice (some ⟨h.size, 0, none⟩) [r].length ([r].length + 1)) [r] := rdI_new H
  have Q1 := Q.keeps H N1
  have LL := R1.len underlying44
  have IX := R1.index underlying44 asz21 (q := .i64) (i := (0 : Int)) (by omega) (by simp)
  have LX := R1.at (i := 0) (t := 21) underlying21 rfl (by simp)
  have hx0 : [r].getD 0 0 = r := rfl
  rw [hx0] at LX
  simp only [show (0 : Int).toNat = 0 from rfl] at IX
  have d1 : decide (¬ (([r].length : Nat) : Int) = 1) = false := decide_eq_false (by simp)
  have d2 : decide (¬ r = r) = false := decide_eq_false (by simp)
  generalize h.new 21 ([r].map (Value.int .i32)) = h1 at *
  simp only [wk, wt, wl, ↓reduceIte, Nat.reduceEqDiff, Nat.reduceAdd, Nat.zero_add, not_false_eq_true, not_true_eq_false, LL, d1, IX, LX, d2]
  refine refWidth_ok.use_pure ?_
  obtain ⟨l0, l1, l2, l3, l4, l5, l6, l7, l8, l9, l10⟩ := Q1.load
  have d3 : decide (widthZ r = 0) = false := decide_eq_false hw
  obtain ⟨A, hA, hAl, hlen, _⟩ := I.rowA
  have hwl := widthZ_le r
  obtain ⟨w, ew⟩ : ∃ w : Nat, widthZ r = (w : Int) := ⟨(widthZ r).toNat, by omega⟩
  have hput0 : putX X r = putAt X r (w : Int) := by unfold putX; rw [if_neg (fun e => e hs), if_neg hw, ew]
  rw [ew] at hw hwl d3
  have hc := I.c; have hcol := I.col; have hr2 := I.r; have hrow := I.row
  have M1 := imin_spec X.col (X.cols - (w : Int))
  obtain ⟨k, hk⟩ : ∃ k : Nat, imin X.col (X.cols - (w : Int)) = (k : Int) := ⟨(imin X.col (X.cols - (w : Int))).toNat, by omega⟩
  have w1 : IntKind.i64.wrap (X.cols - (w : Int)) = X.cols - (w : Int) := IntWalk.i64_in _ (by omega)
  obtain ⟨h2, e2, V2, C2, z2⟩ := Q1.var.store1 (P := prog) (t := 3) (v := .int .i64 (k : Int)) (i := 4) (Ch.wf N1) asz3 (by simp [dF]) rfl
  obtain ⟨Q2, D2⟩ := Q1.own (X' := { X with col := (k : Int) }) (Ch.wf N1) C2 V2 rfl rfl rfl
  have I2 : Inv { X with col := (k : Int) } := ⟨I.r, I.c, I.n, I.row, ⟨by show (0 : Int) ≤ (k : Int); omega, by show (k : Int) < X.cols; omega⟩, I.emp, I.wid, I.nw, I.last⟩
  have D02 := N1.rg.thenR D2
  have P2 : DY h2 Fs x { X with col := (k : Int) } := ⟨_, _, _, _, _, _, _, Q2⟩
  rw [ew]
  simp only [wk, wt, wl, ↓reduceIte, Nat.reduceEqDiff, Nat.reduceAdd, Nat.zero_add, not_false_eq_true, not_true_eq_false, d3, pt]
  refine adraw_order [(0, false), (1, false), (2, false), (3, false), (4, false), (5, false), (6, false), (7, false), (8, false), (9, false), (10, false), (11, false), (12, false), (13, false), (14, false), (15, false), (16, false), (17, false)] mixed (by kernel_rfl) (by kernel_rfl) (by kernel_rfl) (by with_reducible repeat (first | exact PF_retK | refine PF_thenK ?_ | refine PF_blockK ?_)) ?_
  simp only [wk, wt, wl, ↓reduceIte, Nat.reduceEqDiff, Nat.reduceAdd, Nat.zero_add, not_false_eq_true, not_true_eq_false, dK_t, pt, l4, l1, w1, mnV, hk, e2]
  refine (refAt_ok P2 I2).use_pure ?_
  have hat : ({ X with col := (k : Int) } : TX).row * ({ X with col := (k : Int) } : TX).cols + ({ X with col := (k : Int) } : TX).col = ((A + k : Nat) : Int) := by show X.row * X.cols + (k : Int) = _; rw [hA]; omega
  rw [hat]
  have wik : IntKind.i64.wrap (((A + k : Nat) : Int) + (w : Int)) = ((A + k + w : Nat) : Int) := by rw [IntWalk.i64_in _ (by omega)]; omega
  simp only [wk, wt, wl, ↓reduceIte, Nat.reduceEqDiff, Nat.reduceAdd, Nat.zero_add, not_false_eq_true, not_true_eq_false, pt, wik]
  refine (refWipeI_ok (F := A + k) (T := A + k + w) P2 I2 (by show A + k + w ≤ X.cells.length; omega)).use ?_
  rintro _ h3 ⟨rfl, P3, C3⟩
  obtain ⟨cv3, sv3, rv3, ps3, C', S', R', Q3⟩ := P3
  have D03 := D02.thenR C3
  have hwll : (wipeL X.cells (A + k) (A + k + w)).length = X.cells.length := wipeL_len
  obtain ⟨m0, m1, m2, m3, m4, m5, _⟩ := Q3.load
  have N4 := Keeps.new (Ch.wf C3) 21 [.int .i32 r]
  have R4 : RdI prog (h3.new 21 [.int .i32 r]) .i32 (.slice (some ⟨h3.size, 0, none⟩) 1 2) [r] := rdI_new (Ch.wf C3) (xs := [r])
  obtain ⟨h5, ps5, e5, Q5, D5⟩ := Q3.putCell (i := A + k) (c := ⟨[r], X.attr, decide ((w : Int) = 2)⟩) (Ch.wf C3) N4 (by show A + k < (wipeL X.cells (A + k) (A + k + w)).length; omega) R4 blk_new
  have IX5 := Q3.gp.index (z := ((A + k : Nat) : Int)) (by omega) (by show ((A + k : Nat) : Int) < ((wipeL X.cells (A + k) (A + k + w)).length : Int); omega)
  simp only [Int.toNat_natCast] at IX5
  have D05 := D03.thenR D5
  have B1 : abuildSlice prog h3 44 1 #[(0, .int .i32 r)] = some (.slice (some ⟨h3.size, 0, none⟩) 1 2, h3.new 21 [.int .i32 r]) := build1 underlying44 asz21 azero21 rfl rfl
  have bc : abuild prog 50 #[(0, .slice (some ⟨h3.size, 0, none⟩) 1 2), (1, .int .i64 X.attr), (2, .bool (decide ((w : Int) = 2)))] = some (.agg #[.slice (some ⟨h3.size, 0, none⟩) 1 2, .int .i64 X.attr, .bool (decide ((w : Int) = 2))]) := by simp [abuild, wt, aplaces, Instr.fill, Value.cells]
  simp only [wk, wt, wl, ↓reduceIte, Nat.reduceEqDiff, Nat.reduceAdd, Nat.zero_add, not_false_eq_true, not_true_eq_false, pt]
  refine adraw_order [(0, false), (1, false), (2, false), (3, false), (4, false), (5, false), (6, false), (8, false), (9, false), (10, false), (11, false), (12, false), (13, false), (7, true), (14, false), (15, false), (16, false)] mixed (by kernel_rfl) (by kernel_rfl) (by kernel_rfl) (by with_reducible repeat (first | exact PF_retK | refine PF_thenK ?_ | refine PF_blockK ?_)) ?_
  simp only [wk, wt, wl, ↓reduceIte, Nat.reduceEqDiff, Nat.reduceAdd, Nat.zero_add, not_false_eq_true, not_true_eq_false, dK_t, pt, m2, B1, m5, bc, IX5, e5]
  try refine ⟨N4.reads (Ch.wf C3), ?_⟩
  have wkw : IntKind.i64.wrap ((k : Int) + (w : Int)) = (k : Int) + (w : Int) := IntWalk.i64_in _ (by omega)
  have wc1 : IntKind.i64.wrap (X.cols - 1) = X.cols - 1 := IntWalk.i64_in _ (by omega)
  have clamp2 : imin ((k : Int) + (w : Int)) (X.cols - 1) = clampZ ((k : Int) + (w : Int)) X.cols := by
    have M3 := imax_spec ((k : Int) + (w : Int)) 0
    have e : imax ((k : Int) + (w : Int)) 0 = (k : Int) + (w : Int) := by omega
    unfold clampZ; rw [e]
  by_cases h2 : (w : Int) = 2
  · have d4 : decide ((w : Int) = 2) = true := decide_eq_true h2
    have hput : putX X r = { X with cells := ((wipeL X.cells (A + k) (A + k + w)).set (A + k) ⟨[r], X.attr, decide ((w : Int) = 2)⟩).set (A + k + 1) ⟨[], X.attr, false⟩, last := some (A + k), col := clampZ ((k : Int) + (w : Int)) X.cols } := by
      rw [hput0]
      have e1 : ((A : Int) + (k : Int)).toNat = A + k := by omega
      simp only [putAt, hk, hA, e1, Int.toNat_natCast, if_pos h2]
    obtain ⟨n0, n1, n2, n3, n4, n5, _⟩ := Q5.load
    obtain ⟨h7, ps7, e7, Q7, D7⟩ := Q5.putCell (i := A + k + 1) (tv := .slice none 0 0) (c := ⟨[], X.attr, false⟩) (Ch.wf D5) (Keeps.refl (Ch.wf D5)) (by show A + k + 1 < ((wipeL X.cells (A + k) (A + k + w)).set (A + k) ⟨[r], X.attr, decide ((w : Int) = 2)⟩).length; rw [List.length_set]; omega) Rd.nil0 (fun z hz => by cases hz)
    have IX7 := Q5.gp.index (z := ((A + k + 1 : Nat) : Int)) (by omega) (by show ((A + k + 1 : Nat) : Int) < (((wipeL X.cells (A + k) (A + k + w)).set (A + k) ⟨[r], X.attr, decide ((w : Int) = 2)⟩).length : Int); rw [List.length_set]; omega)
    simp only [Int.toNat_natCast] at IX7
    have w7 : IntKind.i64.wrap (((A + k : Nat) : Int) + 1) = ((A + k + 1 : Nat) : Int) := by rw [IntWalk.i64_in _ (by omega)]; omega
    have bc7 : abuild prog 50 #[(1, .int .i64 X.attr)] = some (.agg #[.slice none 0 0, .int .i64 X.attr, .bool false]) := by simp [abuild, wt, aplaces, Instr.fill, Value.cells]
    have D07 := D05.thenR D7
    simp only [wk, wt, wl, ↓reduceIte, Nat.reduceEqDiff, Nat.reduceAdd, Nat.zero_add, not_false_eq_true, not_true_eq_false, d4, pt]
    refine adraw_order [(0, false), (1, false), (2, false), (3, false), (4, false), (5, false), (6, false), (7, false), (8, false), (9, false), (10, false), (11, false), (12, false), (13, false)] mixed (by kernel_rfl) (by kernel_rfl) (by kernel_rfl) (by with_reducible repeat (first | exact PF_retK | refine PF_thenK ?_ | refine PF_blockK ?_)) ?_
    simp only [wk, wt, wl, ↓reduceIte, Nat.reduceEqDiff, Nat.reduceAdd, Nat.zero_add, not_false_eq_true, not_true_eq_false, dK_t, pt, n2, n5, bc7, w7, IX7, e7]
    have Q8 := Q7
    obtain ⟨h9, e9, V9, C9, z9⟩ := Q8.var.store1 (P := prog) (t := 3) (v := .int .i64 ((A + k : Nat) : Int)) (i := 7) (Ch.wf D07) asz3 (by simp [dF]) rfl
    obtain ⟨Q9, D9⟩ := Q8.own (X' := { X with cells := (((wipeL X.cells (A + k) (A + k + w)).set (A + k) ⟨[r], X.attr, decide ((w : Int) = 2)⟩).set (A + k + 1) ⟨[], X.attr, false⟩), col := (k : Int), last := some (A + k) }) (Ch.wf D07) C9 V9 rfl rfl rfl
    obtain ⟨q0, q1', q2', q3', q4, _⟩ := Q9.load
    obtain ⟨hx, ex, Vx, Cx, zx⟩ := Q9.var.store1 (P := prog) (t := 3) (v := .int .i64 (clampZ ((k : Int) + (w : Int)) X.cols)) (i := 4) (Ch.wf C9) asz3 (by simp [dF]) rfl
    obtain ⟨Qx, Dx⟩ := Q9.own (X' := { X with cells := (((wipeL X.cells (A + k) (A + k + w)).set (A + k) ⟨[r], X.attr, decide ((w : Int) = 2)⟩).set (A + k + 1) ⟨[], X.attr, false⟩), last := some (A + k), col := clampZ ((k : Int) + (w : Int)) X.cols }) (Ch.wf C9) Cx Vx rfl rfl rfl
    simp only [wk, wt, wl, ↓reduceIte, Nat.reduceEqDiff, Nat.reduceAdd, Nat.zero_add, not_false_eq_true, not_true_eq_false, pt, e9]
    refine adraw_order [(0, false), (1, false), (2, false), (3, false), (4, false), (5, false), (6, false), (7, false), (8, false), (9, false), (10, false), (11, false), (12, false), (13, false), (14, false), (15, false), (16, false), (17, false), (18, false)] mixed (by kernel_rfl) (by kernel_rfl) (by kernel_rfl) (by with_reducible repeat (first | exact PF_retK | refine PF_thenK ?_ | refine PF_blockK ?_)) ?_
    simp only [wk, wt, wl, ↓reduceIte, Nat.reduceEqDiff, Nat.reduceAdd, Nat.zero_add, not_false_eq_true, not_true_eq_false, dK_t, pt, q4, q1', wkw, wc1, mnV, clamp2, ex]
    rw [hput]
    exact ⟨⟨_, _, _, _, _, _, _, Qx⟩, (D07.thenR D9).thenR Dx⟩
  · have d4 : decide ((w : Int) = 2) = false := decide_eq_false h2
    have hput : putX X r = { X with cells := (wipeL X.cells (A + k) (A + k + w)).set (A + k) ⟨[r], X.attr, decide ((w : Int) = 2)⟩, last := some (A + k), col := clampZ ((k : Int) + (w : Int)) X.cols } := by
      rw [hput0]
      have e1 : ((A : Int) + (k : Int)).toNat = A + k := by omega
      simp only [putAt, hk, hA, e1, Int.toNat_natCast, if_neg h2]
    simp only [wk, wt, wl, ↓reduceIte, Nat.reduceEqDiff, Nat.reduceAdd, Nat.zero_add, not_false_eq_true, not_true_eq_false, d4, pt]
    have Q8 := Q5
    obtain ⟨h9, e9, V9, C9, z9⟩ := Q8.var.store1 (P := prog) (t := 3) (v := .int .i64 ((A + k : Nat) : Int)) (i := 7) (Ch.wf D05) asz3 (by simp [dF]) rfl
    obtain ⟨Q9, D9⟩ := Q8.own (X' := { X with cells := ((wipeL X.cells (A + k) (A + k + w)).set (A + k) ⟨[r], X.attr, decide ((w : Int) = 2)⟩), col := (k : Int), last := some (A + k) }) (Ch.wf D05) C9 V9 rfl rfl rfl
    obtain ⟨q0, q1', q2', q3', q4, _⟩ := Q9.load
    obtain ⟨hx, ex, Vx, Cx, zx⟩ := Q9.var.store1 (P := prog) (t := 3) (v := .int .i64 (clampZ ((k : Int) + (w : Int)) X.cols)) (i := 4) (Ch.wf C9) asz3 (by simp [dF]) rfl
    obtain ⟨Qx, Dx⟩ := Q9.own (X' := { X with cells := ((wipeL X.cells (A + k) (A + k + w)).set (A + k) ⟨[r], X.attr, decide ((w : Int) = 2)⟩), last := some (A + k), col := clampZ ((k : Int) + (w : Int)) X.cols }) (Ch.wf C9) Cx Vx rfl rfl rfl
    simp only [wk, wt, wl, ↓reduceIte, Nat.reduceEqDiff, Nat.reduceAdd, Nat.zero_add, not_false_eq_true, not_true_eq_false, pt, e9]
    refine adraw_order [(0, false), (1, false), (2, false), (3, false), (4, false), (5, false), (6, false), (7, false), (8, false), (9, false), (10, false), (11, false), (12, false), (13, false), (14, false), (15, false), (16, false), (17, false), (18, false)] mixed (by kernel_rfl) (by kernel_rfl) (by kernel_rfl) (by with_reducible repeat (first | exact PF_retK | refine PF_thenK ?_ | refine PF_blockK ?_)) ?_
    simp only [wk, wt, wl, ↓reduceIte, Nat.reduceEqDiff, Nat.reduceAdd, Nat.zero_add, not_false_eq_true, not_true_eq_false, dK_t, pt, q4, q1', wkw, wc1, mnV, clamp2, ex]
    rw [hput]
    exact ⟨⟨_, _, _, _, _, _, _, Qx⟩, (D05.thenR D9).thenR Dx⟩
theorem refTyped_ok {h : Heap} {Fs : Nat → Prop} {x : Nat} {X : TX} {r : Int} (P : DY h Fs x X) (I : Inv X) (hr : isR r) :
    ACalls prog 58 #[pt x, .int .i32 r] h (fun y h' => y = .tuple #[] ∧ DY h' Fs x (putX X r) ∧ Ch (Rg Fs h) h h') := by
  by_cases hs : showL r = [r]
  · by_cases hw : widthZ r = 0
    · exact typed_zero P I hr hs hw
    · exact typed_wide P I hr hs hw
  · exact typed_bad P hr hs
end Go.Proofs.YtefpalmihdbmiaaDoor.Am
end
section
/- The document's terminal: contracts of numbers and erase, by walks. -/
set_option linter.unusedSimpArgs false
set_option linter.unusedVariables false
set_option maxHeartbeats 4000000
set_option maxRecDepth 20000
namespace Go.Proofs.YtefpalmihdbmiaaDoor.Am
open Go Go.RowKit Go.Proofs.Tryd
theorem refNumbers_ok {bv : Value} {b : List Int} {h : Heap} (R : RdI prog h .u8 bv b) (hb : ∀ x, x ∈ b → isB x) (hl : b.length ≤ 1000) :
    ACalls prog 65 #[bv] h (fun y h' => numsT h.size h' y (numsGo [] 0 b) ∧ Keeps h h') := by
  refine acalls_of_W' func65 rfl (by kernel_rfl) (by kernel_rfl) (by simp [ntmps65]) ?_
  intro H
  have N1 := Keeps.new H 3 [.int .i64 0]
  have O1 : OwnR prog (h.new 3 [.int .i64 0]) 1 (.slice (some ⟨h.size, 0, none⟩) 1 2) 1 (vL ([] ++ [0])) := OwnR.new H asz3 rfl
  simp only [wk, wt, wl, ↓reduceIte, Nat.reduceEqDiff, Nat.reduceAdd, Nat.zero_add, not_false_eq_true, not_true_eq_false, bsI]
  refine W_loop (fun tm hh => tm 0 = bv ∧ Keeps h hh ∧ ∃ (i : Nat) (l : List Int) (n : Int) (v : Value), tm 5 = .int .i64 (i : Int) ∧ tm 4 = v ∧ i ≤ b.length ∧ l.length ≤ i ∧ 0 ≤ n ∧ n ≤ 9999 ∧ OwnR prog hh 1 v (l.length + 1) (vL (l ++ [n])) ∧ Fam hh (fun m => h.size ≤ m) v ∧ numsGo [] 0 b = numsGo l n (b.drop i))
    (fun tm _ => (b.length - intOf (tm 5)).toNat) ⟨(by first | rfl | (simp only [wk, wt, wl, ↓reduceIte, Nat.reduceEqDiff, Nat.reduceAdd, Nat.zero_add, not_false_eq_true, not_true_eq_false]; done) | (simp only [wk, wt, wl, ↓reduceIte, Nat.reduceEqDiff, Nat.reduceAdd, Nat.zero_add, not_false_eq_true, not_true_eq_false]; rfl)), N1, 0, [], 0, .slice (some ⟨h.size, 0, none⟩) 1 2, (by first | rfl | (simp only [wk, wt, wl, ↓reduceIte, Nat.reduceEqDiff, Nat.reduceAdd, Nat.zero_add, not_false_eq_true, not_true_eq_false]; done) | (simp only [wk, wt, wl, ↓reduceIte, Nat.reduceEqDiff, Nat.reduceAdd, Nat.zero_add, not_false_eq_true, not_true_eq_false]; rfl)), (by first | rfl | (simp only [wk, wt, wl, ↓reduceIte, Nat.reduceEqDiff, Nat.reduceAdd, Nat.zero_add, not_false_eq_true, not_true_eq_false]; done) | (simp only [wk, wt, wl, ↓reduceIte, Nat.reduceEqDiff, Nat.reduceAdd, Nat.zero_add, not_false_eq_true, not_true_eq_false]; rfl)), by omega, by simp, by omega, by omega, O1, (Fam.freshK N1 blk_new).mono fun n hn => hn.1, rfl⟩ ?_
  rintro tm hh ⟨t0, K, i, l, n, v, t5, t4, hi, hli, hn0, hn9, O, hv, hg⟩
  have R1 := R.keeps K
  have LB := R1.len underlying29
  simp only [wk, wt, wl, ↓reduceIte, Nat.reduceEqDiff, Nat.reduceAdd, Nat.zero_add, not_false_eq_true, not_true_eq_false, t0, t5, t4, LB]
  refine condK_dec (fun hd => ?_) (fun hd => ?_)
  · have hi1 : i < b.length := by omega
    have IX := R1.index underlying29 asz5 (q := .i64) (i := (i : Int)) (by omega) (by omega)
    have LX := R1.at (i := i) (t := 5) underlying5 rfl hi1
    simp only [Int.toNat_natCast] at IX
    obtain ⟨x, hx⟩ : ∃ x, b[i]? = some x := ⟨b[i], List.getElem?_eq_getElem hi1⟩
    have hgd : b.getD i 0 = x := by simp [List.getD, hx]
    rw [hgd] at LX
    have hxb := hb x (List.mem_of_getElem? hx)
    have hdr : b.drop i = x :: b.drop (i + 1) := by rw [List.drop_eq_getElem_cons hi1]; congr 1; exact (List.getElem?_eq_some_iff.1 hx).2
    rw [hdr] at hg
    have LV := O.1.len underlying82
    have IV := Rd.index O.1 underlying82 asz3 (q := .i64) (i := (l.length : Int)) (by omega) (by omega)
    simp only [Int.toNat_natCast] at IV
    have wl1 : IntKind.i64.wrap (((l.length + 1 : Nat) : Int) - 1) = (l.length : Int) := by rw [IntWalk.i64_in _ (by omega)]; omega
    have wi : IntKind.i64.wrap ((i : Int) + 1) = ((i + 1 : Nat) : Int) := by rw [IntWalk.i64_in _ (by omega)]; omega
    have dirt : ∀ y, FamV hh v y → h.size ≤ y := fun y d => by
      obtain ⟨k, g, f⟩ := FamV.rg hv d
      have := (Ch.wf K).2 y k g
      omega
    have hvl : ∀ z, blkOf v = some z → z < hh.size := fun z hz => (O.1.blk_lt hz).1
    by_cases c1 : x = 59
    · have d1 : decide (x = 59) = true := decide_eq_true c1
      have hg1 : numsGo l n (x :: b.drop (i + 1)) = numsGo (l ++ [n]) 0 (b.drop (i + 1)) := by simp only [numsGo]; rw [if_pos c1]
      rw [hg1] at hg
      obtain ⟨h2, e2, O2, z2, C2, ⟨k2, q1, q2, q3⟩, _⟩ := O.append1 (P := prog) (Ch.wf K) underlying82 elem3 fits3 (by decide) (xs := [.int .i64 0]) rfl (by omega)
      have K2 := K.step C2 dirt
      have hle := Ch.le K
      simp only [wk, wt, wl, ↓reduceIte, Nat.reduceEqDiff, Nat.reduceAdd, Nat.zero_add, not_false_eq_true, not_true_eq_false, t0, t5, t4, IX, LX, LV, wl1, IV, d1, bsI, e2, wi, intOf_int]
      refine ⟨⟨K2, i + 1, l ++ [n], 0, _, rfl, rfl, by omega, by simp; omega, by omega, by omega, ?_, fun z k hz g => ?_, hg⟩, by omega⟩
      · have := O2
        rw [List.length_append, List.length_singleton, vL_app]; exact this
      · cases hz
        rw [q1] at g; cases g
        rcases q3 with e | ⟨w, kw, hw, gw, e⟩
        · rw [e]; show h.size ≤ _; omega
        · rw [e]; exact hv w kw hw gw
    · have d1 : decide (x = 59) = false := decide_eq_false c1
      by_cases c2 : 48 ≤ x ∧ x ≤ 57
      · have d2 : decide (48 ≤ x) = true := decide_eq_true c2.1
        have d3 : decide (x ≤ 57) = true := decide_eq_true c2.2
        have hg1 : numsGo l n (x :: b.drop (i + 1)) = numsGo l (imin (n * 10 + (x - 48)) 9999) (b.drop (i + 1)) := by simp only [numsGo]; rw [if_neg c1, if_pos c2]
        rw [hg1] at hg
        have M1 := imin_spec (n * 10 + (x - 48)) 9999
        have LN := O.1.at0 (t := 3) underlying3 rfl (i := l.length) (by omega) (by omega)
        have hat : (vL (l ++ [n]))[l.length * 1]? = some (.int .i64 n) := by simp [vL]
        rw [hat] at LN
        have w1 : IntKind.i64.wrap (n * 10) = n * 10 := IntWalk.i64_in _ (by omega)
        have w2 : IntKind.u8.wrap (x - 48) = x - 48 := IntWalk.u8_in _ (by omega)
        have w3 : IntKind.i64.wrap (x - 48) = x - 48 := IntWalk.i64_in _ (by omega)
        have w4 : IntKind.i64.wrap (n * 10 + (x - 48)) = n * 10 + (x - 48) := IntWalk.i64_in _ (by omega)
        obtain ⟨h2, e2, O2, C2, z2, f2, _⟩ := O.storeA (P := prog) (Ch.wf K) (t := 3) (w := .int .i64 (imin (n * 10 + (x - 48)) 9999)) (i := l.length) asz3 (by simp [Value.cells]) (by simp [Value.cells, one]) (by omega)
        have K2 := K.step C2 dirt
        have hov : over (vL (l ++ [n])) (l.length * 1) (Value.int .i64 (imin (n * 10 + (x - 48)) 9999)).cells.toList = vL (l ++ [imin (n * 10 + (x - 48)) 9999]) := by
          simp [Value.cells, over, vL]
        rw [hov] at O2
        have cv : ∀ h, aconv prog h 5 3 (.int .u8 (x - 48)) = some (.int .i64 (x - 48)) := fun h => by simp [aconv, underlying5, underlying3, w3]
        simp only [wk, wt, wl, ↓reduceIte, Nat.reduceEqDiff, Nat.reduceAdd, Nat.zero_add, not_false_eq_true, not_true_eq_false, t0, t5, t4, IX, LX, LV, wl1, d1, d2, d3]
        refine adraw_order [(0, false), (1, false), (2, false), (3, false), (4, false), (5, false), (6, false), (7, false), (8, false), (9, false), (10, false), (11, false), (12, false), (13, false), (14, false), (15, false), (16, false)] mixed (by kernel_rfl) (by kernel_rfl) (by kernel_rfl) (by with_reducible repeat (first | exact PF_retK | refine PF_thenK ?_ | refine PF_blockK ?_)) ?_
        simp only [wk, wt, wl, ↓reduceIte, Nat.reduceEqDiff, Nat.reduceAdd, Nat.zero_add, not_false_eq_true, not_true_eq_false, dK_t, t0, t5, t4, IX, LX, IV, LN, w1, w2, cv, w4, mnV, e2, wi, intOf_int]
        exact ⟨⟨K2, i + 1, l, _, v, rfl, rfl, by omega, by omega, by omega, by omega, O2, hv.ch C2 hvl, hg⟩, by omega⟩
      · have hg1 : numsGo l n (x :: b.drop (i + 1)) = none := by simp only [numsGo]; rw [if_neg c1, if_neg c2]
        rw [hg1] at hg
        rw [hg]
        by_cases c3 : 48 ≤ x
        · have d2 : decide (48 ≤ x) = true := decide_eq_true c3
          have d3 : decide (x ≤ 57) = false := decide_eq_false fun e => c2 ⟨c3, e⟩
          simp only [wk, wt, wl, ↓reduceIte, Nat.reduceEqDiff, Nat.reduceAdd, Nat.zero_add, not_false_eq_true, not_true_eq_false, t0, t5, t4, IX, LX, LV, wl1, IV, d1, d2, d3]
          exact ⟨rfl, K⟩
        · have d2 : decide (48 ≤ x) = false := decide_eq_false c3
          simp only [wk, wt, wl, ↓reduceIte, Nat.reduceEqDiff, Nat.reduceAdd, Nat.zero_add, not_false_eq_true, not_true_eq_false, t0, t5, t4, IX, LX, LV, wl1, IV, d1, d2]
          exact ⟨rfl, K⟩
  · obtain rfl : i = b.length := by omega
    rw [List.drop_length] at hg
    simp only [wk, wt, wl, ↓reduceIte, Nat.reduceEqDiff, Nat.reduceAdd, Nat.zero_add, not_false_eq_true, not_true_eq_false, t4]
    rw [hg]
    exact ⟨⟨v, rfl, by have := O.1; simpa [RdI, vL] using this, fun z hz => by
      obtain ⟨k, g, _⟩ := O.2 z hz
      have h1 := hv z k hz g
      have h2 := (Ch.wf K).2 z k g
      omega⟩, K⟩
theorem refErase_ok {h : Heap} {Fs : Nat → Prop} {x : Nat} {X : TX} {q : Int} {F T : Nat} (P : DY h Fs x X) (I : Inv X) (hT : T ≤ X.cells.length) :
    ACalls prog 66 #[pt x, .int .i64 q, .int .i64 F, .int .i64 T] h (fun y h' => y = .tuple #[] ∧ DY h' Fs x (eraseX X q F T) ∧ Ch (Rg Fs h) h h') := by
  refine acalls_of_W' func66 rfl (by kernel_rfl) (by kernel_rfl) (by simp [ntmps66]) ?_
  intro H
  obtain ⟨A, hA, hAl, hlen, _⟩ := I.rowA
  have hcol := I.col
  obtain ⟨c, hc⟩ : ∃ c : Nat, X.col = (c : Int) := ⟨X.col.toNat, by omega⟩
  have hat : X.row * X.cols + X.col = ((A + c : Nat) : Int) := by rw [hA]; omega
  have w1 : IntKind.i64.wrap (((A + c : Nat) : Int) + 1) = ((A + c + 1 : Nat) : Int) := by rw [IntWalk.i64_in _ (by omega)]; omega
  have e0 : (X.row * X.cols + X.col).toNat = A + c := by rw [hA]; omega
  have e1 : (X.row * X.cols + X.col + 1).toNat = A + c + 1 := by rw [hA]; omega
  by_cases c0 : q = 0
  · have d0 := decide_eq_true c0
    have hX : eraseX X q F T = { X with cells := wipeL X.cells (A + c) T } := by simp only [eraseX]; rw [if_pos c0, e0, Int.toNat_natCast]
    rw [hX]
    simp only [wk, wt, wl, ↓reduceIte, Nat.reduceEqDiff, Nat.reduceAdd, Nat.zero_add, not_false_eq_true, not_true_eq_false, pt, d0]
    refine (refAt_ok P I).use_pure ?_
    rw [hat]
    simp only [wk, wt, wl, ↓reduceIte, Nat.reduceEqDiff, Nat.reduceAdd, Nat.zero_add, not_false_eq_true, not_true_eq_false]
    refine (refWipeI_ok P I hT).use ?_
    rintro _ h1 ⟨rfl, P1, C1⟩
    simp only [wk, wt, wl, ↓reduceIte, Nat.reduceEqDiff, Nat.reduceAdd, Nat.zero_add, not_false_eq_true, not_true_eq_false]
    exact ⟨P1, C1⟩
  · have d0 := decide_eq_false c0
    by_cases c1 : q = 1
    · have d1 := decide_eq_true c1
      have hX : eraseX X q F T = { X with cells := wipeL X.cells F (A + c + 1) } := by simp only [eraseX]; rw [if_neg c0, if_pos c1, e1, Int.toNat_natCast]
      rw [hX]
      simp only [wk, wt, wl, ↓reduceIte, Nat.reduceEqDiff, Nat.reduceAdd, Nat.zero_add, not_false_eq_true, not_true_eq_false, pt, d0, d1]
      refine (refAt_ok P I).use_pure ?_
      rw [hat]
      simp only [wk, wt, wl, ↓reduceIte, Nat.reduceEqDiff, Nat.reduceAdd, Nat.zero_add, not_false_eq_true, not_true_eq_false, w1]
      refine (refWipeI_ok P I (by omega)).use ?_
      rintro _ h1 ⟨rfl, P1, C1⟩
      simp only [wk, wt, wl, ↓reduceIte, Nat.reduceEqDiff, Nat.reduceAdd, Nat.zero_add, not_false_eq_true, not_true_eq_false]
      exact ⟨P1, C1⟩
    · have d1 := decide_eq_false c1
      by_cases c2 : q = 2
      · have d2 := decide_eq_true c2
        have hX : eraseX X q F T = { X with cells := wipeL X.cells F T } := by simp only [eraseX]; rw [if_neg c0, if_neg c1, if_pos c2, Int.toNat_natCast, Int.toNat_natCast]
        rw [hX]
        simp only [wk, wt, wl, ↓reduceIte, Nat.reduceEqDiff, Nat.reduceAdd, Nat.zero_add, not_false_eq_true, not_true_eq_false, pt, d0, d1, d2]
        refine (refWipeI_ok P I hT).use ?_
        rintro _ h1 ⟨rfl, P1, C1⟩
        simp only [wk, wt, wl, ↓reduceIte, Nat.reduceEqDiff, Nat.reduceAdd, Nat.zero_add, not_false_eq_true, not_true_eq_false]
        exact ⟨P1, C1⟩
      · have d2 := decide_eq_false c2
        have hX : eraseX X q F T = X := by simp only [eraseX]; rw [if_neg c0, if_neg c1, if_neg c2]
        rw [hX]
        simp only [wk, wt, wl, ↓reduceIte, Nat.reduceEqDiff, Nat.reduceAdd, Nat.zero_add, not_false_eq_true, not_true_eq_false, d0, d1, d2]
        exact ⟨P, (Keeps.refl H).rg⟩
end Go.Proofs.YtefpalmihdbmiaaDoor.Am
end
section
/- The document's terminal: the contract of sequence, by a walk. -/
set_option linter.unusedSimpArgs false
set_option linter.unusedVariables false
set_option maxHeartbeats 4000000
set_option maxRecDepth 20000
namespace Go.Proofs.YtefpalmihdbmiaaDoor.Am
open Go Go.RowKit Go.Proofs.Tryd
theorem imax_comm (a b : Int) : imax a b = imax b a := by unfold imax; (repeat' split) <;> omega
theorem numsGo_ask {s : List Int} (h : asksB s = true) : numsGo [] 0 s = none := by
  cases s with
  | nil => simp [asksB] at h
  | cons y s =>
    have e : y = 63 := by simpa [asksB] using h
    subst e
    simp [numsGo]
theorem seqX_other {X : TX} {s : List Int} {b : Int} (hb : ¬ (b = 104 ∨ b = 108)) : seqX X s b = match numsGo [] 0 s with | none => X | some l => doX X l b := by
  unfold seqX
  by_cases ha : asksB s = true
  · rw [numsGo_ask ha, if_pos ha, ha, decide_eq_false hb]
    cases numsGo [] 0 s.tail <;> rfl
  · have ha' : asksB s = false := by simpa using ha
    rw [if_neg ha, ha', decide_eq_false hb]
    cases numsGo [] 0 s <;> rfl
section
variable {h : Heap} {Fs : Nat → Prop} {x : Nat} {X : TX} {bv : Value} {s : List Int} {b : Int}
theorem seq_hide (P : DY h Fs x X) (RB : RdI prog h .u8 bv s) (hs : ∀ y, y ∈ s → isB y) (hl : s.length ≤ 32) (hb0 : b = 104 ∨ b = 108) :
    ACalls prog 54 #[pt x, bv, .int .u8 b] h (fun y h' => y = .tuple #[] ∧ DY h' Fs x (seqX X s b) ∧ Ch (Rg Fs h) h h') := by
  refine acalls_of_W' func54 rfl (by kernel_rfl) (by kernel_rfl) (by simp [ntmps54]) ?_
  intro H
  obtain ⟨cv, sv, rv, ps, C, S, R, Q⟩ := P
  have LB := RB.len underlying29
  have E : (decide (b = 104) = true) ∨ (decide (b = 104) = false ∧ decide (b = 108) = true) := by
    by_cases e : b = 104
    · exact .inl (decide_eq_true e)
    · exact .inr ⟨decide_eq_false e, decide_eq_true (hb0.resolve_left e)⟩
  cases s with
  | nil =>
    have d0 : decide ((0 : Int) < (([] : List Int).length : Int)) = false := by decide
    have hask : asksB [] = false := rfl
    generalize hss : ([] : List Int) = s at *
    rcases E with e | ⟨e, e'⟩
    · simp only [wk, wt, wl, ↓reduceIte, Nat.reduceEqDiff, Nat.reduceAdd, Nat.zero_add, not_false_eq_true, not_true_eq_false, e, LB, d0]
      have hX : seqX X s b = X := by
        unfold seqX
        rw [hask, decide_eq_true hb0]
        cases numsGo [] 0 (if false = true then s.tail else s) <;> rfl
      rw [hX]
      exact ⟨⟨_, _, _, _, _, _, _, Q⟩, (Keeps.refl H).rg⟩
    · simp only [wk, wt, wl, ↓reduceIte, Nat.reduceEqDiff, Nat.reduceAdd, Nat.zero_add, not_false_eq_true, not_true_eq_false, e, e', LB, d0]
      have hX : seqX X s b = X := by
        unfold seqX
        rw [hask, decide_eq_true hb0]
        cases numsGo [] 0 (if false = true then s.tail else s) <;> rfl
      rw [hX]
      exact ⟨⟨_, _, _, _, _, _, _, Q⟩, (Keeps.refl H).rg⟩
  | cons y s' =>
    have d0 : decide ((0 : Int) < ((y :: s').length : Int)) = true := decide_eq_true (by simp only [List.length_cons]; omega)
    have I0 := RB.index underlying29 asz5 (q := .i64) (i := (0 : Int)) (by omega) (by simp only [List.length_cons]; omega)
    have L0 := RB.at (i := 0) (t := 5) underlying5 rfl (by simp only [List.length_cons]; omega)
    have hy0 : (y :: s').getD 0 0 = y := rfl
    rw [hy0] at L0
    simp only [show (0 : Int).toNat = 0 from rfl] at I0
    by_cases h63 : y = 63
    · have d1 : decide (y = 63) = true := decide_eq_true h63
      have hask : asksB (y :: s') = true := by simp [asksB, h63]
      have SL := RB.sliceLo underlying29 asz5 (q := .i64) (i := 1) (by omega) (by simp only [List.length_cons]; omega)
      have RD := RB.partLo (L := 1) (by simp only [List.length_cons]; omega)
      simp only [show (1 : Int).toNat = 1 from rfl] at SL
      generalize hss : y :: s' = s at *
      rcases E with e | ⟨e, e'⟩
      · simp only [wk, wt, wl, ↓reduceIte, Nat.reduceEqDiff, Nat.reduceAdd, Nat.zero_add, not_false_eq_true, not_true_eq_false, e, LB, d0, I0, L0, d1, SL]
        have hX : seqX X s b = match numsGo [] 0 (s.drop 1) with | none => X | some l => if 25 ∈ l then { X with hid := decide (b = 108) } else X := by
          unfold seqX
          rw [hask, if_pos rfl, decide_eq_true hb0, List.drop_one]
          cases hn : numsGo [] 0 s.tail with
          | none => rfl
          | some l => simp only [doX, if_true]; rw [if_pos hb0]
        rw [hX]
        refine (refNumbers_ok RD (fun y hy => hs y (List.mem_of_mem_drop hy)) (by rw [List.length_drop]; omega)).use ?_
        rintro y h1 ⟨hy, K1⟩
        have Q1 := Q.keeps H K1
        cases hN : numsGo [] 0 (s.drop 1) with
        | none =>
          rw [hN] at hy
          obtain rfl : y = .tuple #[.slice none 0 0, .bool false] := hy
          have LN : abuiltin prog .len #[82] #[.slice none 0 0] = some (.int .i64 0) := by simp [abuiltin, underlying82]
          simp only [wk, wt, wl, ↓reduceIte, Nat.reduceEqDiff, Nat.reduceAdd, Nat.zero_add, not_false_eq_true, not_true_eq_false]
          refine W_loop (fun tm hh => hh = h1 ∧ tm 6 = .slice none 0 0 ∧ tm 8 = .int .i64 0) (fun _ _ => 0) ⟨rfl, (by first | rfl | (simp only [wk, wt, wl, ↓reduceIte, Nat.reduceEqDiff, Nat.reduceAdd, Nat.zero_add, not_false_eq_true, not_true_eq_false]; done) | (simp only [wk, wt, wl, ↓reduceIte, Nat.reduceEqDiff, Nat.reduceAdd, Nat.zero_add, not_false_eq_true, not_true_eq_false]; rfl)), (by first | rfl | (simp only [wk, wt, wl, ↓reduceIte, Nat.reduceEqDiff, Nat.reduceAdd, Nat.zero_add, not_false_eq_true, not_true_eq_false]; done) | (simp only [wk, wt, wl, ↓reduceIte, Nat.reduceEqDiff, Nat.reduceAdd, Nat.zero_add, not_false_eq_true, not_true_eq_false]; rfl))⟩ ?_
          rintro tm hh ⟨rfl, t6, t8⟩
          have d0 : decide ((0 : Int) < 0) = false := by decide
          simp only [wk, wt, wl, ↓reduceIte, Nat.reduceEqDiff, Nat.reduceAdd, Nat.zero_add, not_false_eq_true, not_true_eq_false, t6, t8, LN, d0]
          exact ⟨⟨_, _, _, _, _, _, _, Q1⟩, K1.rg⟩
        | some l =>
          rw [hN] at hy
          obtain ⟨v, rfl, RL, hvz⟩ := hy
          have hlen := numsGo_len hN
          simp only [List.length_nil, Nat.zero_add] at hlen
          have hdl : (s.drop 1).length ≤ 32 := by rw [List.length_drop]; omega
          have hvx : blkOf v ≠ some x := fun e => by have := hvz x e; have := Q.xl; omega
          simp only [wk, wt, wl, ↓reduceIte, Nat.reduceEqDiff, Nat.reduceAdd, Nat.zero_add, not_false_eq_true, not_true_eq_false]
          refine W_loop (fun tm hh => tm 0 = pt x ∧ tm 2 = .int .u8 b ∧ tm 6 = v ∧ tm 7 = .bool true ∧ Ch (Rg Fs h) h hh ∧ RdI prog hh .i64 v l ∧ ∃ i : Nat, tm 8 = .int .i64 (i : Int) ∧ i ≤ l.length ∧ DX hh Fs x { X with hid := if 25 ∈ l.take i then decide (b = 108) else X.hid } cv sv rv ps C S R)
            (fun tm _ => (l.length - intOf (tm 8)).toNat) ⟨(by first | rfl | (simp only [wk, wt, wl, ↓reduceIte, Nat.reduceEqDiff, Nat.reduceAdd, Nat.zero_add, not_false_eq_true, not_true_eq_false]; done) | (simp only [wk, wt, wl, ↓reduceIte, Nat.reduceEqDiff, Nat.reduceAdd, Nat.zero_add, not_false_eq_true, not_true_eq_false]; rfl)), (by first | rfl | (simp only [wk, wt, wl, ↓reduceIte, Nat.reduceEqDiff, Nat.reduceAdd, Nat.zero_add, not_false_eq_true, not_true_eq_false]; done) | (simp only [wk, wt, wl, ↓reduceIte, Nat.reduceEqDiff, Nat.reduceAdd, Nat.zero_add, not_false_eq_true, not_true_eq_false]; rfl)), (by first | rfl | (simp only [wk, wt, wl, ↓reduceIte, Nat.reduceEqDiff, Nat.reduceAdd, Nat.zero_add, not_false_eq_true, not_true_eq_false]; done) | (simp only [wk, wt, wl, ↓reduceIte, Nat.reduceEqDiff, Nat.reduceAdd, Nat.zero_add, not_false_eq_true, not_true_eq_false]; rfl)), (by first | rfl | (simp only [wk, wt, wl, ↓reduceIte, Nat.reduceEqDiff, Nat.reduceAdd, Nat.zero_add, not_false_eq_true, not_true_eq_false]; done) | (simp only [wk, wt, wl, ↓reduceIte, Nat.reduceEqDiff, Nat.reduceAdd, Nat.zero_add, not_false_eq_true, not_true_eq_false]; rfl)), K1.rg, RL, 0, (by first | rfl | (simp only [wk, wt, wl, ↓reduceIte, Nat.reduceEqDiff, Nat.reduceAdd, Nat.zero_add, not_false_eq_true, not_true_eq_false]; done) | (simp only [wk, wt, wl, ↓reduceIte, Nat.reduceEqDiff, Nat.reduceAdd, Nat.zero_add, not_false_eq_true, not_true_eq_false]; rfl)), by omega, by simpa using Q1⟩ ?_
          rintro tm hh ⟨t0, t2, t6, t7, D, RV, i, t8, hi, Q2⟩
          simp only [wk, wt, wl, ↓reduceIte, Nat.reduceEqDiff, Nat.reduceAdd, Nat.zero_add, not_false_eq_true, not_true_eq_false, t6, t7, t8, RV.len underlying82]
          by_cases hi1 : i < l.length
          · have di : decide ((i : Int) < (l.length : Int)) = true := decide_eq_true (by omega)
            have IX := RV.index underlying82 asz3 (q := .i64) (i := (i : Int)) (by omega) (by omega)
            have LX := RV.at (i := i) (t := 3) underlying3 rfl hi1
            simp only [Int.toNat_natCast] at IX
            have wi : IntKind.i64.wrap ((i : Int) + 1) = ((i + 1 : Nat) : Int) := by rw [IntWalk.i64_in _ (by omega)]; omega
            have htk : l.take (i + 1) = l.take i ++ [l.getD i 0] := by rw [List.take_add_one, List.getD, List.getElem?_eq_getElem hi1]; rfl
            by_cases h25 : l.getD i 0 = 25
            · have d25 := decide_eq_true h25
              obtain ⟨h3, e3, V3, C3, z3⟩ := Q2.var.store1 (P := prog) (t := 4) (v := .bool (decide (b = 108))) (i := 6) (Ch.wf D) asz4 (by simp [dF]) rfl
              obtain ⟨Q3, D3⟩ := Q2.own (X' := { X with hid := if 25 ∈ l.take (i + 1) then decide (b = 108) else X.hid }) (Ch.wf D) C3 (by
                have hm : (25 : Int) ∈ l.take (i + 1) := by rw [htk, h25]; simp
                rw [if_pos hm]
                exact V3) rfl rfl rfl
              simp only [wk, wt, wl, ↓reduceIte, Nat.reduceEqDiff, Nat.reduceAdd, Nat.zero_add, not_false_eq_true, not_true_eq_false, di, t0, t2, t6, t7, t8, pt, IX, LX, d25, e3, wi, intOf_int]
              exact ⟨⟨D.thenR D3, Ch.rd C3 RV (fun y hy e => hvx (by rw [hy, e])), i + 1, rfl, by omega, Q3⟩, by omega⟩
            · have d25 := decide_eq_false h25
              have hsame : (25 ∈ l.take (i + 1)) = (25 ∈ l.take i) := propext (by
                rw [htk, List.mem_append, List.mem_singleton]
                exact ⟨fun q => q.resolve_right fun e => h25 e.symm, .inl⟩)
              simp only [wk, wt, wl, ↓reduceIte, Nat.reduceEqDiff, Nat.reduceAdd, Nat.zero_add, not_false_eq_true, not_true_eq_false, di, t0, t2, t6, t7, t8, pt, IX, LX, d25, wi, intOf_int]
              refine ⟨⟨D, RV, i + 1, rfl, by omega, ?_⟩, by omega⟩
              simp only [hsame]
              exact Q2
          · have di : decide ((i : Int) < (l.length : Int)) = false := decide_eq_false (by omega)
            obtain rfl : i = l.length := by omega
            simp only [wk, wt, wl, ↓reduceIte, Nat.reduceEqDiff, Nat.reduceAdd, Nat.zero_add, not_false_eq_true, not_true_eq_false, di]
            rw [List.take_length] at Q2
            refine ⟨?_, D⟩
            by_cases h25 : (25 : Int) ∈ l
            · simp only [if_pos h25] at Q2 ⊢
              exact ⟨_, _, _, _, _, _, _, Q2⟩
            · simp only [if_neg h25] at Q2 ⊢
              exact ⟨_, _, _, _, _, _, _, Q2⟩
      · simp only [wk, wt, wl, ↓reduceIte, Nat.reduceEqDiff, Nat.reduceAdd, Nat.zero_add, not_false_eq_true, not_true_eq_false, e, e', LB, d0, I0, L0, d1, SL]
        have hX : seqX X s b = match numsGo [] 0 (s.drop 1) with | none => X | some l => if 25 ∈ l then { X with hid := decide (b = 108) } else X := by
          unfold seqX
          rw [hask, if_pos rfl, decide_eq_true hb0, List.drop_one]
          cases hn : numsGo [] 0 s.tail with
          | none => rfl
          | some l => simp only [doX, if_true]; rw [if_pos hb0]
        rw [hX]
        refine (refNumbers_ok RD (fun y hy => hs y (List.mem_of_mem_drop hy)) (by rw [List.length_drop]; omega)).use ?_
        rintro y h1 ⟨hy, K1⟩
        have Q1 := Q.keeps H K1
        cases hN : numsGo [] 0 (s.drop 1) with
        | none =>
          rw [hN] at hy
          obtain rfl : y = .tuple #[.slice none 0 0, .bool false] := hy
          have LN : abuiltin prog .len #[82] #[.slice none 0 0] = some (.int .i64 0) := by simp [abuiltin, underlying82]
          simp only [wk, wt, wl, ↓reduceIte, Nat.reduceEqDiff, Nat.reduceAdd, Nat.zero_add, not_false_eq_true, not_true_eq_false]
          refine W_loop (fun tm hh => hh = h1 ∧ tm 6 = .slice none 0 0 ∧ tm 8 = .int .i64 0) (fun _ _ => 0) ⟨rfl, (by first | rfl | (simp only [wk, wt, wl, ↓reduceIte, Nat.reduceEqDiff, Nat.reduceAdd, Nat.zero_add, not_false_eq_true, not_true_eq_false]; done) | (simp only [wk, wt, wl, ↓reduceIte, Nat.reduceEqDiff, Nat.reduceAdd, Nat.zero_add, not_false_eq_true, not_true_eq_false]; rfl)), (by first | rfl | (simp only [wk, wt, wl, ↓reduceIte, Nat.reduceEqDiff, Nat.reduceAdd, Nat.zero_add, not_false_eq_true, not_true_eq_false]; done) | (simp only [wk, wt, wl, ↓reduceIte, Nat.reduceEqDiff, Nat.reduceAdd, Nat.zero_add, not_false_eq_true, not_true_eq_false]; rfl))⟩ ?_
          rintro tm hh ⟨rfl, t6, t8⟩
          have d0 : decide ((0 : Int) < 0) = false := by decide
          simp only [wk, wt, wl, ↓reduceIte, Nat.reduceEqDiff, Nat.reduceAdd, Nat.zero_add, not_false_eq_true, not_true_eq_false, t6, t8, LN, d0]
          exact ⟨⟨_, _, _, _, _, _, _, Q1⟩, K1.rg⟩
        | some l =>
          rw [hN] at hy
          obtain ⟨v, rfl, RL, hvz⟩ := hy
          have hlen := numsGo_len hN
          simp only [List.length_nil, Nat.zero_add] at hlen
          have hdl : (s.drop 1).length ≤ 32 := by rw [List.length_drop]; omega
          have hvx : blkOf v ≠ some x := fun e => by have := hvz x e; have := Q.xl; omega
          simp only [wk, wt, wl, ↓reduceIte, Nat.reduceEqDiff, Nat.reduceAdd, Nat.zero_add, not_false_eq_true, not_true_eq_false]
          refine W_loop (fun tm hh => tm 0 = pt x ∧ tm 2 = .int .u8 b ∧ tm 6 = v ∧ tm 7 = .bool true ∧ Ch (Rg Fs h) h hh ∧ RdI prog hh .i64 v l ∧ ∃ i : Nat, tm 8 = .int .i64 (i : Int) ∧ i ≤ l.length ∧ DX hh Fs x { X with hid := if 25 ∈ l.take i then decide (b = 108) else X.hid } cv sv rv ps C S R)
            (fun tm _ => (l.length - intOf (tm 8)).toNat) ⟨(by first | rfl | (simp only [wk, wt, wl, ↓reduceIte, Nat.reduceEqDiff, Nat.reduceAdd, Nat.zero_add, not_false_eq_true, not_true_eq_false]; done) | (simp only [wk, wt, wl, ↓reduceIte, Nat.reduceEqDiff, Nat.reduceAdd, Nat.zero_add, not_false_eq_true, not_true_eq_false]; rfl)), (by first | rfl | (simp only [wk, wt, wl, ↓reduceIte, Nat.reduceEqDiff, Nat.reduceAdd, Nat.zero_add, not_false_eq_true, not_true_eq_false]; done) | (simp only [wk, wt, wl, ↓reduceIte, Nat.reduceEqDiff, Nat.reduceAdd, Nat.zero_add, not_false_eq_true, not_true_eq_false]; rfl)), (by first | rfl | (simp only [wk, wt, wl, ↓reduceIte, Nat.reduceEqDiff, Nat.reduceAdd, Nat.zero_add, not_false_eq_true, not_true_eq_false]; done) | (simp only [wk, wt, wl, ↓reduceIte, Nat.reduceEqDiff, Nat.reduceAdd, Nat.zero_add, not_false_eq_true, not_true_eq_false]; rfl)), (by first | rfl | (simp only [wk, wt, wl, ↓reduceIte, Nat.reduceEqDiff, Nat.reduceAdd, Nat.zero_add, not_false_eq_true, not_true_eq_false]; done) | (simp only [wk, wt, wl, ↓reduceIte, Nat.reduceEqDiff, Nat.reduceAdd, Nat.zero_add, not_false_eq_true, not_true_eq_false]; rfl)), K1.rg, RL, 0, (by first | rfl | (simp only [wk, wt, wl, ↓reduceIte, Nat.reduceEqDiff, Nat.reduceAdd, Nat.zero_add, not_false_eq_true, not_true_eq_false]; done) | (simp only [wk, wt, wl, ↓reduceIte, Nat.reduceEqDiff, Nat.reduceAdd, Nat.zero_add, not_false_eq_true, not_true_eq_false]; rfl)), by omega, by simpa using Q1⟩ ?_
          rintro tm hh ⟨t0, t2, t6, t7, D, RV, i, t8, hi, Q2⟩
          simp only [wk, wt, wl, ↓reduceIte, Nat.reduceEqDiff, Nat.reduceAdd, Nat.zero_add, not_false_eq_true, not_true_eq_false, t6, t7, t8, RV.len underlying82]
          by_cases hi1 : i < l.length
          · have di : decide ((i : Int) < (l.length : Int)) = true := decide_eq_true (by omega)
            have IX := RV.index underlying82 asz3 (q := .i64) (i := (i : Int)) (by omega) (by omega)
            have LX := RV.at (i := i) (t := 3) underlying3 rfl hi1
            simp only [Int.toNat_natCast] at IX
            have wi : IntKind.i64.wrap ((i : Int) + 1) = ((i + 1 : Nat) : Int) := by rw [IntWalk.i64_in _ (by omega)]; omega
            have htk : l.take (i + 1) = l.take i ++ [l.getD i 0] := by rw [List.take_add_one, List.getD, List.getElem?_eq_getElem hi1]; rfl
            by_cases h25 : l.getD i 0 = 25
            · have d25 := decide_eq_true h25
              obtain ⟨h3, e3, V3, C3, z3⟩ := Q2.var.store1 (P := prog) (t := 4) (v := .bool (decide (b = 108))) (i := 6) (Ch.wf D) asz4 (by simp [dF]) rfl
              obtain ⟨Q3, D3⟩ := Q2.own (X' := { X with hid := if 25 ∈ l.take (i + 1) then decide (b = 108) else X.hid }) (Ch.wf D) C3 (by
                have hm : (25 : Int) ∈ l.take (i + 1) := by rw [htk, h25]; simp
                rw [if_pos hm]
                exact V3) rfl rfl rfl
              simp only [wk, wt, wl, ↓reduceIte, Nat.reduceEqDiff, Nat.reduceAdd, Nat.zero_add, not_false_eq_true, not_true_eq_false, di, t0, t2, t6, t7, t8, pt, IX, LX, d25, e3, wi, intOf_int]
              exact ⟨⟨D.thenR D3, Ch.rd C3 RV (fun y hy e => hvx (by rw [hy, e])), i + 1, rfl, by omega, Q3⟩, by omega⟩
            · have d25 := decide_eq_false h25
              have hsame : (25 ∈ l.take (i + 1)) = (25 ∈ l.take i) := propext (by
                rw [htk, List.mem_append, List.mem_singleton]
                exact ⟨fun q => q.resolve_right fun e => h25 e.symm, .inl⟩)
              simp only [wk, wt, wl, ↓reduceIte, Nat.reduceEqDiff, Nat.reduceAdd, Nat.zero_add, not_false_eq_true, not_true_eq_false, di, t0, t2, t6, t7, t8, pt, IX, LX, d25, wi, intOf_int]
              refine ⟨⟨D, RV, i + 1, rfl, by omega, ?_⟩, by omega⟩
              simp only [hsame]
              exact Q2
          · have di : decide ((i : Int) < (l.length : Int)) = false := decide_eq_false (by omega)
            obtain rfl : i = l.length := by omega
            simp only [wk, wt, wl, ↓reduceIte, Nat.reduceEqDiff, Nat.reduceAdd, Nat.zero_add, not_false_eq_true, not_true_eq_false, di]
            rw [List.take_length] at Q2
            refine ⟨?_, D⟩
            by_cases h25 : (25 : Int) ∈ l
            · simp only [if_pos h25] at Q2 ⊢
              exact ⟨_, _, _, _, _, _, _, Q2⟩
            · simp only [if_neg h25] at Q2 ⊢
              exact ⟨_, _, _, _, _, _, _, Q2⟩
    · have d1 : decide (y = 63) = false := decide_eq_false h63
      have hask : asksB (y :: s') = false := by simp [asksB, h63]
      generalize hss : y :: s' = s at *
      rcases E with e | ⟨e, e'⟩
      · simp only [wk, wt, wl, ↓reduceIte, Nat.reduceEqDiff, Nat.reduceAdd, Nat.zero_add, not_false_eq_true, not_true_eq_false, e, LB, d0, I0, L0, d1]
        have hX : seqX X s b = X := by
          unfold seqX
          rw [hask, decide_eq_true hb0]
          cases numsGo [] 0 (if false = true then s.tail else s) <;> rfl
        rw [hX]
        exact ⟨⟨_, _, _, _, _, _, _, Q⟩, (Keeps.refl H).rg⟩
      · simp only [wk, wt, wl, ↓reduceIte, Nat.reduceEqDiff, Nat.reduceAdd, Nat.zero_add, not_false_eq_true, not_true_eq_false, e, e', LB, d0, I0, L0, d1]
        have hX : seqX X s b = X := by
          unfold seqX
          rw [hask, decide_eq_true hb0]
          cases numsGo [] 0 (if false = true then s.tail else s) <;> rfl
        rw [hX]
        exact ⟨⟨_, _, _, _, _, _, _, Q⟩, (Keeps.refl H).rg⟩
end
end Go.Proofs.YtefpalmihdbmiaaDoor.Am
end
section
/- The document's terminal: the contract of sequence at the other letters, by a walk. -/
set_option linter.unusedSimpArgs false
set_option linter.unusedVariables false
set_option maxHeartbeats 4000000
set_option maxRecDepth 20000
namespace Go.Proofs.YtefpalmihdbmiaaDoor.Am
open Go Go.RowKit Go.Proofs.Tryd
section
variable {h : Heap} {Fs : Nat → Prop} {x : Nat} {X : TX} {bv : Value} {s : List Int} {b : Int}
theorem seq_do (P : DY h Fs x X) (I : Inv X) (RB : RdI prog h .u8 bv s) (hs : ∀ y, y ∈ s → isB y) (hl : s.length ≤ 32) (hb0 : ¬ (b = 104 ∨ b = 108)) :
    ACalls prog 54 #[pt x, bv, .int .u8 b] h (fun y h' => y = .tuple #[] ∧ DY h' Fs x (seqX X s b) ∧ Ch (Rg Fs h) h h') := by
  refine acalls_of_W' func54 rfl (by kernel_rfl) (by kernel_rfl) (by simp [ntmps54]) ?_
  intro H
  obtain ⟨cv, sv, rv, ps, C, S, R, Q⟩ := P
  have n1 : decide (b = 104) = false := decide_eq_false fun e => hb0 (.inl e)
  have n2 : decide (b = 108) = false := decide_eq_false fun e => hb0 (.inr e)
  rw [seqX_other hb0]
  simp only [wk, wt, wl, ↓reduceIte, Nat.reduceEqDiff, Nat.reduceAdd, Nat.zero_add, not_false_eq_true, not_true_eq_false, n1, n2]
  refine (refNumbers_ok RB hs (by omega)).use ?_
  rintro y h1 ⟨hy, K1⟩
  have Q1 := Q.keeps H K1
  have P1 : DY h1 Fs x X := ⟨_, _, _, _, _, _, _, Q1⟩
  cases hN : numsGo [] 0 s with
  | none =>
    rw [hN] at hy
    obtain rfl : y = .tuple #[.slice none 0 0, .bool false] := hy
    simp only [wk, wt, wl, ↓reduceIte, Nat.reduceEqDiff, Nat.reduceAdd, Nat.zero_add, not_false_eq_true, not_true_eq_false, Bool.not_false]
    exact ⟨P1, K1.rg⟩
  | some l =>
    rw [hN] at hy
    obtain ⟨v, rfl, RL, hvz⟩ := hy
    have hlen := numsGo_len hN
    simp only [List.length_nil, Nat.zero_add] at hlen
    obtain ⟨l0, l1, l2, l3, l4, l5, l6, l7, l8, l9, l10⟩ := Q1.load
    have hl0 : 0 < l.length := by omega
    have IL0 := RL.index underlying82 asz3 (q := .i64) (i := (0 : Int)) (by omega) (by omega)
    have LL0 := RL.at (i := 0) (t := 3) underlying3 rfl hl0
    have LLn := RL.len underlying82
    have hbd := numsGo_bd hN (fun x hx => by cases hx) (by omega)
    have g0 := getD_bd hbd 0
    have g1 := getD_bd hbd 1
    have X0 := imax_spec (l.getD 0 0) 1
    have X1 := imax_spec (l.getD 1 0) 1
    simp only [show (0 : Int).toNat = 0 from rfl] at IL0
    obtain ⟨A, hA, hAl, hlenC, _⟩ := I.rowA
    have hc := I.c; have hcol := I.col; have hr := I.r; have hrow := I.row
    obtain ⟨cc, hcc2⟩ : ∃ c : Nat, X.cols = (c : Int) := ⟨X.cols.toNat, by omega⟩
    have wr : IntKind.i64.wrap (X.row + 1) = X.row + 1 := IntWalk.i64_in _ (by omega)
    have hA2 : (X.row + 1) * X.cols = ((A + cc : Nat) : Int) := by rw [Int.add_mul, Int.one_mul, hA]; omega
    have w1 : IntKind.i64.wrap (X.row * X.cols) = (A : Int) := by rw [hA]; exact IntWalk.i64_in _ (by omega)
    have w2 : IntKind.i64.wrap ((X.row + 1) * X.cols) = ((A + cc : Nat) : Int) := by rw [hA2]; exact IntWalk.i64_in _ (by omega)
    have nz : imax 1 (l.getD 0 0) = imax (l.getD 0 0) 1 := imax_comm _ _
    have nz1 : imax 1 (l.getD 1 0) = imax (l.getD 1 0) 1 := imax_comm _ _
    obtain ⟨N, hNN⟩ : ∃ N, imax (l.getD 0 0) 1 = N := ⟨_, rfl⟩
    rw [hNN] at nz X0
    simp only [wk, wt, wl, ↓reduceIte, Nat.reduceEqDiff, Nat.reduceAdd, Nat.zero_add, not_false_eq_true, not_true_eq_false, Bool.not_true, IL0, LL0, mxV, nz, pt]
    refine adraw_order [(0, false), (1, false), (2, false), (3, false), (4, false), (5, false), (6, false), (7, false), (8, false), (9, false), (10, false), (11, false)] mixed (by kernel_rfl) (by kernel_rfl) (by kernel_rfl) (by with_reducible repeat (first | exact PF_retK | refine PF_thenK ?_ | refine PF_blockK ?_)) ?_
    simp only [wk, wt, wl, ↓reduceIte, Nat.reduceEqDiff, Nat.reduceAdd, Nat.zero_add, not_false_eq_true, not_true_eq_false, dK_t, pt, l3, l4]
    refine adraw_order [(0, false), (1, false), (2, false), (3, false), (4, false), (5, false), (6, false), (7, false), (8, false), (9, false), (10, false), (11, false), (12, false), (13, false), (14, false), (15, false), (16, false)] mixed (by kernel_rfl) (by kernel_rfl) (by kernel_rfl) (by with_reducible repeat (first | exact PF_retK | refine PF_thenK ?_ | refine PF_blockK ?_)) ?_
    simp only [wk, wt, wl, ↓reduceIte, Nat.reduceEqDiff, Nat.reduceAdd, Nat.zero_add, not_false_eq_true, not_true_eq_false, dK_t, pt, l1, wr, w1, w2]
    by_cases b1 : b = 72
    · have d1 := decide_eq_true b1
      have hX : doX X l b = moveX X (N - 1) ((if 1 < l.length then imax (l.getD 1 0) 1 else 1) - 1) := by rw [b1, ← hNN]; simp [doX]
      simp only [hX]
      by_cases hl1 : 1 < l.length
      · have d8 : decide (1 < (l.length : Int)) = true := decide_eq_true (by omega)
        have IL1 := RL.index underlying82 asz3 (q := .i64) (i := (1 : Int)) (by omega) (by omega)
        have LL1 := RL.at (i := 1) (t := 3) underlying3 rfl hl1
        simp only [show (1 : Int).toNat = 1 from rfl] at IL1
        rw [if_pos hl1]
        simp (disch := omega) only [wk, wt, wl, ↓reduceIte, Nat.reduceEqDiff, Nat.reduceAdd, Nat.zero_add, not_false_eq_true, not_true_eq_false, d1, LLn, d8, IL1, LL1, mxV, nz1, IntWalk.i64_in]
        refine (refGoes_ok P1 I.r I.c).use ?_
        rintro _ h2 ⟨rfl, P2, C2⟩
        simp only [wk, wt, wl, ↓reduceIte, Nat.reduceEqDiff, Nat.reduceAdd, Nat.zero_add, not_false_eq_true, not_true_eq_false]
        exact ⟨P2, K1.rg.thenR C2⟩
      · have d8 : decide (1 < (l.length : Int)) = false := decide_eq_false (by omega)
        rw [if_neg hl1]
        simp (disch := omega) only [wk, wt, wl, ↓reduceIte, Nat.reduceEqDiff, Nat.reduceAdd, Nat.zero_add, not_false_eq_true, not_true_eq_false, d1, LLn, d8, IntWalk.i64_in]
        refine (refGoes_ok P1 I.r I.c).use ?_
        rintro _ h2 ⟨rfl, P2, C2⟩
        simp only [wk, wt, wl, ↓reduceIte, Nat.reduceEqDiff, Nat.reduceAdd, Nat.zero_add, not_false_eq_true, not_true_eq_false]
        exact ⟨P2, K1.rg.thenR C2⟩
    · have d1 := decide_eq_false b1
      by_cases b2 : b = 65
      · have d2 := decide_eq_true b2
        have hX : doX X l b = moveX X (X.row - N) X.col := by rw [b2, ← hNN]; simp [doX]
        simp only [hX]
        simp (disch := omega) only [wk, wt, wl, ↓reduceIte, Nat.reduceEqDiff, Nat.reduceAdd, Nat.zero_add, not_false_eq_true, not_true_eq_false, d1, d2, IntWalk.i64_in]
        refine (refGoes_ok P1 I.r I.c).use ?_
        rintro _ h2 ⟨rfl, P2, C2⟩
        simp only [wk, wt, wl, ↓reduceIte, Nat.reduceEqDiff, Nat.reduceAdd, Nat.zero_add, not_false_eq_true, not_true_eq_false]
        exact ⟨P2, K1.rg.thenR C2⟩
      · have d2 := decide_eq_false b2
        by_cases b3 : b = 66
        · have d3 := decide_eq_true b3
          have hX : doX X l b = moveX X (X.row + N) X.col := by rw [b3, ← hNN]; simp [doX]
          simp only [hX]
          simp (disch := omega) only [wk, wt, wl, ↓reduceIte, Nat.reduceEqDiff, Nat.reduceAdd, Nat.zero_add, not_false_eq_true, not_true_eq_false, d1, d2, d3, IntWalk.i64_in]
          refine (refGoes_ok P1 I.r I.c).use ?_
          rintro _ h2 ⟨rfl, P2, C2⟩
          simp only [wk, wt, wl, ↓reduceIte, Nat.reduceEqDiff, Nat.reduceAdd, Nat.zero_add, not_false_eq_true, not_true_eq_false]
          exact ⟨P2, K1.rg.thenR C2⟩
        · have d3 := decide_eq_false b3
          by_cases b4 : b = 67
          · have d4 := decide_eq_true b4
            have hX : doX X l b = moveX X X.row (X.col + N) := by rw [b4, ← hNN]; simp [doX]
            simp only [hX]
            simp (disch := omega) only [wk, wt, wl, ↓reduceIte, Nat.reduceEqDiff, Nat.reduceAdd, Nat.zero_add, not_false_eq_true, not_true_eq_false, d1, d2, d3, d4, IntWalk.i64_in]
            refine (refGoes_ok P1 I.r I.c).use ?_
            rintro _ h2 ⟨rfl, P2, C2⟩
            simp only [wk, wt, wl, ↓reduceIte, Nat.reduceEqDiff, Nat.reduceAdd, Nat.zero_add, not_false_eq_true, not_true_eq_false]
            exact ⟨P2, K1.rg.thenR C2⟩
          · have d4 := decide_eq_false b4
            by_cases b5 : b = 68
            · have d5 := decide_eq_true b5
              have hX : doX X l b = moveX X X.row (X.col - N) := by rw [b5, ← hNN]; simp [doX]
              simp only [hX]
              simp (disch := omega) only [wk, wt, wl, ↓reduceIte, Nat.reduceEqDiff, Nat.reduceAdd, Nat.zero_add, not_false_eq_true, not_true_eq_false, d1, d2, d3, d4, d5, IntWalk.i64_in]
              refine (refGoes_ok P1 I.r I.c).use ?_
              rintro _ h2 ⟨rfl, P2, C2⟩
              simp only [wk, wt, wl, ↓reduceIte, Nat.reduceEqDiff, Nat.reduceAdd, Nat.zero_add, not_false_eq_true, not_true_eq_false]
              exact ⟨P2, K1.rg.thenR C2⟩
            · have d5 := decide_eq_false b5
              by_cases b6 : b = 71
              · have d6 := decide_eq_true b6
                have hX : doX X l b = moveX X X.row (N - 1) := by rw [b6, ← hNN]; simp [doX]
                simp only [hX]
                simp (disch := omega) only [wk, wt, wl, ↓reduceIte, Nat.reduceEqDiff, Nat.reduceAdd, Nat.zero_add, not_false_eq_true, not_true_eq_false, d1, d2, d3, d4, d5, d6, IntWalk.i64_in]
                refine (refGoes_ok P1 I.r I.c).use ?_
                rintro _ h2 ⟨rfl, P2, C2⟩
                simp only [wk, wt, wl, ↓reduceIte, Nat.reduceEqDiff, Nat.reduceAdd, Nat.zero_add, not_false_eq_true, not_true_eq_false]
                exact ⟨P2, K1.rg.thenR C2⟩
              · have d6 := decide_eq_false b6
                by_cases b7 : b = 74
                · have d7 := decide_eq_true b7
                  have hX : doX X l b = eraseX X (l.getD 0 0) 0 X.cells.length := by rw [b7]; simp [doX]
                  simp only [hX]
                  simp only [wk, wt, wl, ↓reduceIte, Nat.reduceEqDiff, Nat.reduceAdd, Nat.zero_add, not_false_eq_true, not_true_eq_false, d1, d2, d3, d4, d5, d6, d7, pt]
                  refine adraw_order [(0, false), (1, false), (2, false), (3, false), (4, false), (5, false), (6, false), (7, false)] mixed (by kernel_rfl) (by kernel_rfl) (by kernel_rfl) (by with_reducible repeat (first | exact PF_retK | refine PF_thenK ?_ | refine PF_blockK ?_)) ?_
                  simp only [wk, wt, wl, ↓reduceIte, Nat.reduceEqDiff, Nat.reduceAdd, Nat.zero_add, not_false_eq_true, not_true_eq_false, dK_t, pt, l2, Q1.gp.len, IL0, LL0]
                  refine (refErase_ok (q := l.getD 0 0) (F := 0) (T := X.cells.length) P1 I (Nat.le_refl _)).use ?_
                  rintro _ h2 ⟨rfl, P2, C2⟩
                  simp only [wk, wt, wl, ↓reduceIte, Nat.reduceEqDiff, Nat.reduceAdd, Nat.zero_add, not_false_eq_true, not_true_eq_false]
                  exact ⟨P2, K1.rg.thenR C2⟩
                · have d7 := decide_eq_false b7
                  by_cases b8 : b = 75
                  · have d8 := decide_eq_true b8
                    have hX : doX X l b = eraseX X (l.getD 0 0) (X.row * X.cols) ((X.row + 1) * X.cols) := by rw [b8]; simp [doX]
                    simp only [hX]
                    simp only [wk, wt, wl, ↓reduceIte, Nat.reduceEqDiff, Nat.reduceAdd, Nat.zero_add, not_false_eq_true, not_true_eq_false, d1, d2, d3, d4, d5, d6, d7, d8, IL0, LL0]
                    refine (refErase_ok (q := l.getD 0 0) (F := A) (T := A + cc) P1 I (by omega)).use ?_
                    rintro _ h2 ⟨rfl, P2, C2⟩
                    simp only [wk, wt, wl, ↓reduceIte, Nat.reduceEqDiff, Nat.reduceAdd, Nat.zero_add, not_false_eq_true, not_true_eq_false]
                    rw [hA, hA2]
                    exact ⟨P2, K1.rg.thenR C2⟩
                  · have d8 := decide_eq_false b8
                    by_cases b9 : b = 109
                    · have d9 := decide_eq_true b9
                      have hX : doX X l b = { X with attr := attrL X.attr l } := by rw [b9]; simp [doX]
                      simp only [hX]
                      simp only [wk, wt, wl, ↓reduceIte, Nat.reduceEqDiff, Nat.reduceAdd, Nat.zero_add, not_false_eq_true, not_true_eq_false, d1, d2, d3, d4, d5, d6, d7, d8, d9]
                      have hvx : blkOf v ≠ some x := fun e => by have := hvz x e; have := Q.xl; omega
                      refine W_loop (fun tm hh => tm 0 = pt x ∧ tm 9 = v ∧ Ch (Rg Fs h) h hh ∧ RdI prog hh .i64 v l ∧ ∃ (i : Nat) (a : Int), tm 17 = .int .i64 (i : Int) ∧ i ≤ l.length ∧ DX hh Fs x { X with attr := a } cv sv rv ps C S R ∧ attrL X.attr l = attrL a (l.drop i))
                        (fun tm _ => (l.length - intOf (tm 17)).toNat) ⟨(by first | rfl | (simp only [wk, wt, wl, ↓reduceIte, Nat.reduceEqDiff, Nat.reduceAdd, Nat.zero_add, not_false_eq_true, not_true_eq_false]; done) | (simp only [wk, wt, wl, ↓reduceIte, Nat.reduceEqDiff, Nat.reduceAdd, Nat.zero_add, not_false_eq_true, not_true_eq_false]; rfl)), (by first | rfl | (simp only [wk, wt, wl, ↓reduceIte, Nat.reduceEqDiff, Nat.reduceAdd, Nat.zero_add, not_false_eq_true, not_true_eq_false]; done) | (simp only [wk, wt, wl, ↓reduceIte, Nat.reduceEqDiff, Nat.reduceAdd, Nat.zero_add, not_false_eq_true, not_true_eq_false]; rfl)), K1.rg, RL, 0, X.attr, (by first | rfl | (simp only [wk, wt, wl, ↓reduceIte, Nat.reduceEqDiff, Nat.reduceAdd, Nat.zero_add, not_false_eq_true, not_true_eq_false]; done) | (simp only [wk, wt, wl, ↓reduceIte, Nat.reduceEqDiff, Nat.reduceAdd, Nat.zero_add, not_false_eq_true, not_true_eq_false]; rfl)), by omega, Q1, rfl⟩ ?_
                      rintro tm hh ⟨t0, t9, D, RV, i, a, t17, hi, Q2, hat⟩
                      simp only [wk, wt, wl, ↓reduceIte, Nat.reduceEqDiff, Nat.reduceAdd, Nat.zero_add, not_false_eq_true, not_true_eq_false, t0, t9, t17, RV.len underlying82]
                      refine condK_dec (fun hd => ?_) (fun hd => ?_)
                      · have hi1 : i < l.length := by omega
                        have IX := RV.index underlying82 asz3 (q := .i64) (i := (i : Int)) (by omega) (by omega)
                        have LX := RV.at (i := i) (t := 3) underlying3 rfl hi1
                        simp only [Int.toNat_natCast] at IX
                        have hdr : l.drop i = l.getD i 0 :: l.drop (i + 1) := by rw [List.drop_eq_getElem_cons hi1]; congr 1; simp [List.getD, List.getElem?_eq_getElem hi1]
                        rw [hdr] at hat
                        simp only [attrL] at hat
                        generalize l.getD i 0 = z at *
                        have wi : IntKind.i64.wrap ((i : Int) + 1) = ((i + 1 : Nat) : Int) := by rw [IntWalk.i64_in _ (by omega)]; omega
                        by_cases x0 : z = 0
                        · have dx0 := decide_eq_true x0
                          have dx7 : decide (z = 7) = false := decide_eq_false (by omega)
                          obtain ⟨h3, e3, V3, C3, z3⟩ := Q2.var.store1 (P := prog) (t := 3) (v := .int .i64 0) (i := 5) (Ch.wf D) asz3 (by simp [dF]) rfl
                          obtain ⟨Q3, D3⟩ := Q2.own (X' := { X with attr := 0 }) (Ch.wf D) C3 V3 rfl rfl rfl
                          have RV3 : RdI prog h3 .i64 v l := Ch.rd C3 RV (fun y hy e => hvx (by rw [hy, e]))
                          have LX3 := RV3.at (i := i) (t := 3) underlying3 rfl hi1
                          have hz : l.getD i 0 = z := by
                            have := RV.at (i := i) (t := 3) underlying3 rfl hi1
                            rw [LX] at this
                            simpa using this.symm
                          rw [hz] at LX3
                          rw [if_pos x0] at hat
                          simp only [wk, wt, wl, ↓reduceIte, Nat.reduceEqDiff, Nat.reduceAdd, Nat.zero_add, not_false_eq_true, not_true_eq_false, t0, t9, t17, pt, IX, LX, dx0, e3, LX3, dx7, wi, intOf_int]
                          exact ⟨⟨D.thenR D3, RV3, i + 1, 0, rfl, by omega, Q3, hat⟩, by omega⟩
                        · have dx0 := decide_eq_false x0
                          rw [if_neg x0] at hat
                          by_cases x7 : z = 7
                          · have dx7 := decide_eq_true x7
                            obtain ⟨h3, e3, V3, C3, z3⟩ := Q2.var.store1 (P := prog) (t := 3) (v := .int .i64 1) (i := 5) (Ch.wf D) asz3 (by simp [dF]) rfl
                            obtain ⟨Q3, D3⟩ := Q2.own (X' := { X with attr := 1 }) (Ch.wf D) C3 V3 rfl rfl rfl
                            rw [if_pos x7] at hat
                            simp only [wk, wt, wl, ↓reduceIte, Nat.reduceEqDiff, Nat.reduceAdd, Nat.zero_add, not_false_eq_true, not_true_eq_false, t0, t9, t17, pt, IX, LX, dx0, dx7, e3, wi, intOf_int]
                            exact ⟨⟨D.thenR D3, Ch.rd C3 RV (fun y hy e => hvx (by rw [hy, e])), i + 1, 1, rfl, by omega, Q3, hat⟩, by omega⟩
                          · have dx7 := decide_eq_false x7
                            rw [if_neg x7] at hat
                            simp only [wk, wt, wl, ↓reduceIte, Nat.reduceEqDiff, Nat.reduceAdd, Nat.zero_add, not_false_eq_true, not_true_eq_false, t0, t9, t17, pt, IX, LX, dx0, dx7, wi, intOf_int]
                            exact ⟨⟨D, RV, i + 1, a, rfl, by omega, Q2, hat⟩, by omega⟩
                      · obtain rfl : i = l.length := by omega
                        rw [List.drop_length] at hat
                        simp only [wk, wt, wl, ↓reduceIte, Nat.reduceEqDiff, Nat.reduceAdd, Nat.zero_add, not_false_eq_true, not_true_eq_false]
                        rw [hat]
                        exact ⟨⟨_, _, _, _, _, _, _, Q2⟩, D⟩
                    · have d9 := decide_eq_false b9
                      have hX : doX X l b = X := by
                        simp only [doX]
                        rw [if_neg hb0, if_neg b9, if_neg b1, if_neg b2, if_neg b3, if_neg b4, if_neg b5, if_neg b6, if_neg b7, if_neg b8]
                      simp only [hX]
                      simp only [wk, wt, wl, ↓reduceIte, Nat.reduceEqDiff, Nat.reduceAdd, Nat.zero_add, not_false_eq_true, not_true_eq_false, d1, d2, d3, d4, d5, d6, d7, d8, d9]
                      exact ⟨P1, K1.rg⟩
theorem refSequence_ok (P : DY h Fs x X) (I : Inv X) (RB : RdI prog h .u8 bv s) (hs : ∀ y, y ∈ s → isB y) (hl : s.length ≤ 32) :
    ACalls prog 54 #[pt x, bv, .int .u8 b] h (fun y h' => y = .tuple #[] ∧ DY h' Fs x (seqX X s b) ∧ Ch (Rg Fs h) h h') := by
  by_cases hb0 : b = 104 ∨ b = 108
  · exact seq_hide P RB hs hl hb0
  · exact seq_do P I RB hs hl hb0
end
end Go.Proofs.YtefpalmihdbmiaaDoor.Am
end
section
/- The document's terminal: contracts of flush, one and Write, by walks. -/
set_option linter.unusedSimpArgs false
set_option linter.unusedVariables false
set_option maxHeartbeats 4000000
set_option maxRecDepth 20000
namespace Go.Proofs.YtefpalmihdbmiaaDoor.Am
open Go Go.RowKit Go.Proofs.Tryd
theorem eraseX_st {X : TX} {q f t : Int} {n : Nat} : eraseX { X with st := n } q f t = { eraseX X q f t with st := n } := by
  unfold eraseX
  by_cases c0 : q = 0
  · simp only [if_pos c0]
  · simp only [if_neg c0]
    by_cases c1 : q = 1
    · simp only [if_pos c1]
    · simp only [if_neg c1]
      by_cases c2 : q = 2
      · simp only [if_pos c2]
      · simp only [if_neg c2]
theorem doX_st {X : TX} {l : List Int} {b : Int} {n : Nat} : doX { X with st := n } l b = { doX X l b with st := n } := by
  unfold doX
  simp only
  by_cases c0 : b = 104 ∨ b = 108
  · simp only [if_pos c0]
    by_cases c : (25 : Int) ∈ l
    · simp only [if_pos c]
    · simp only [if_neg c]
  · simp only [if_neg c0]
    by_cases c1 : b = 109
    · simp only [if_pos c1]
    · simp only [if_neg c1]
      by_cases c2 : b = 72
      · simp only [if_pos c2]; rfl
      · simp only [if_neg c2]
        by_cases c3 : b = 65
        · simp only [if_pos c3]; rfl
        · simp only [if_neg c3]
          by_cases c4 : b = 66
          · simp only [if_pos c4]; rfl
          · simp only [if_neg c4]
            by_cases c5 : b = 67
            · simp only [if_pos c5]; rfl
            · simp only [if_neg c5]
              by_cases c6 : b = 68
              · simp only [if_pos c6]; rfl
              · simp only [if_neg c6]
                by_cases c7 : b = 71
                · simp only [if_pos c7]; rfl
                · simp only [if_neg c7]
                  by_cases c8 : b = 74
                  · simp only [if_pos c8]; exact eraseX_st
                  · simp only [if_neg c8]
                    by_cases c9 : b = 75
                    · simp only [if_pos c9]; exact eraseX_st
                    · simp only [if_neg c9]
theorem seqX_st {X : TX} {s : List Int} {b : Int} {n : Nat} : seqX { X with st := n } s b = { seqX X s b with st := n } := by
  unfold seqX
  cases numsGo [] 0 (if asksB s = true then s.tail else s) with
  | none => rfl
  | some l =>
    simp only
    by_cases c : asksB s = decide (b = 104 ∨ b = 108)
    · simp only [if_pos c]; exact doX_st
    · simp only [if_neg c]
def sliceN : Option Value → Nat
  | some (Value.slice _ n _) => n
  | _ => 0
def heldLen (h : Heap) (x : Nat) : Nat := match h.get x with
  | some k => sliceN (k.cells[10]?)
  | none => 0
section
variable {h h' : Heap} {Fs : Nat → Prop} {x : Nat} {X X' : TX} {cv sv rv : Value} {ps : List PC} {C S R : Nat → Prop} {b : Int}
theorem DX.heldLen (Q : DX h Fs x X cv sv rv ps C S R) : heldLen h x = X.held.length := by
  obtain ⟨k, h1, h2, _⟩ := Q.var
  unfold Am.heldLen
  rw [h1]
  simp only [h2, dF, List.getElem?_cons_succ, List.getElem?_cons_zero]
  obtain ⟨⟨_, ⟨e, rfl | rfl⟩ | ⟨b, o, c, k', rfl, _⟩⟩, _⟩ := Q.ro
  · exact e.symm
  · exact e.symm
  · rfl
theorem DX.noHeld (Q : DX h Fs x X cv sv rv ps C S R) (H : Wf h) (K0 : Ch (fun y => y = x) h h') (V : Var h' x (dF { X with held := [] } cv sv (.slice none 0 0))) : DY h' Fs x { X with held := [] } ∧ Ch (Rg Fs h) h h' := by
  have K : Ch (Rg (fun n => R n ∨ n = x) h) h h' := (Ch.varRg Q.var K0).mono fun y r => r.mono fun n e => .inr e
  obtain ⟨⟨R', Q'⟩, D⟩ := Q.heldN (X' := { X with held := [] }) H K V OwnR.nil0 (fun z e => by cases e) rfl rfl
  exact ⟨⟨_, _, _, _, _, _, _, Q'⟩, D⟩
theorem refFlush_ok (P : DY h Fs x X) (I : Inv X) (hl : X.held.length ≤ 3) :
    ACalls prog 55 #[pt x] h (fun y h' => y = .tuple #[] ∧ DY h' Fs x { (List.replicate X.held.length (65533 : Int)).foldl putX X with held := [] } ∧ Ch (Rg Fs h) h h') := by
  refine acalls_of_W' func55 rfl (by kernel_rfl) (by kernel_rfl) (by simp [ntmps55]) ?_
  intro H
  simp only [wk, wt, wl, ↓reduceIte, Nat.reduceEqDiff, Nat.reduceAdd, Nat.zero_add, not_false_eq_true, not_true_eq_false]
  refine W_loop (fun tm hh => tm 0 = pt x ∧ Ch (Rg Fs h) h hh ∧ ∃ i : Nat, tm 2 = .int .i64 (i : Int) ∧ i ≤ X.held.length ∧ DY hh Fs x ((List.replicate i (65533 : Int)).foldl putX X))
    (fun tm _ => (X.held.length - intOf (tm 2)).toNat) ⟨(by first | rfl | (simp only [wk, wt, wl, ↓reduceIte, Nat.reduceEqDiff, Nat.reduceAdd, Nat.zero_add, not_false_eq_true, not_true_eq_false]; done) | (simp only [wk, wt, wl, ↓reduceIte, Nat.reduceEqDiff, Nat.reduceAdd, Nat.zero_add, not_false_eq_true, not_true_eq_false]; rfl)), (Keeps.refl H).rg, 0, (by first | rfl | (simp only [wk, wt, wl, ↓reduceIte, Nat.reduceEqDiff, Nat.reduceAdd, Nat.zero_add, not_false_eq_true, not_true_eq_false]; done) | (simp only [wk, wt, wl, ↓reduceIte, Nat.reduceEqDiff, Nat.reduceAdd, Nat.zero_add, not_false_eq_true, not_true_eq_false]; rfl)), by omega, P⟩ ?_
  rintro tm hh ⟨t0, D, i, t2, hi, P1⟩
  have eh : ((List.replicate i (65533 : Int)).foldl putX X).held = X.held := foldl_seq.2
  have P1' := P1
  obtain ⟨cv, sv, rv, ps, C, S, R, Q⟩ := P1
  obtain ⟨l0, l1, l2, l3, l4, l5, l6, l7, l8, l9, l10⟩ := Q.load
  have LR := Q.ro.1.len underlying29
  rw [eh] at LR
  simp only [wk, wt, wl, ↓reduceIte, Nat.reduceEqDiff, Nat.reduceAdd, Nat.zero_add, not_false_eq_true, not_true_eq_false, t0, t2, pt, l10, LR]
  refine condK_dec (fun hd => ?_) (fun hd => ?_)
  · have wi : IntKind.i64.wrap ((i : Int) + 1) = ((i + 1 : Nat) : Int) := by rw [IntWalk.i64_in _ (by omega)]; omega
    simp only [wk, wt, wl, ↓reduceIte, Nat.reduceEqDiff, Nat.reduceAdd, Nat.zero_add, not_false_eq_true, not_true_eq_false, t0, t2, pt]
    refine (refTyped_ok P1' (inv_foldl I) (by simp [isR])).use ?_
    rintro _ h2 ⟨rfl, P2, C2⟩
    simp only [wk, wt, wl, ↓reduceIte, Nat.reduceEqDiff, Nat.reduceAdd, Nat.zero_add, not_false_eq_true, not_true_eq_false, t0, t2, pt, wi, intOf_int]
    refine ⟨⟨D.thenR C2, i + 1, rfl, by omega, ?_⟩, by omega⟩
    have e : (List.replicate (i + 1) (65533 : Int)).foldl putX X = putX ((List.replicate i (65533 : Int)).foldl putX X) 65533 := by
      rw [List.replicate_succ', List.foldl_append]; rfl
    rw [e]; exact P2
  · obtain rfl : i = X.held.length := by omega
    obtain ⟨h2, e2, V2, C2, z2⟩ := Q.var.store1 (P := prog) (t := 29) (v := .slice none 0 0) (i := 10) (Ch.wf D) asz29 (by simp [dF]) rfl
    obtain ⟨P2, D2⟩ := Q.noHeld (Ch.wf D) C2 V2
    simp only [wk, wt, wl, ↓reduceIte, Nat.reduceEqDiff, Nat.reduceAdd, Nat.zero_add, not_false_eq_true, not_true_eq_false, t0, pt, e2]
    exact ⟨P2, D.thenR D2⟩
theorem one_plain (P : DY h Fs x X) (G : Good X) (h0 : X.st = 0) (hb : isB b) :
    ACalls prog 34 #[pt x, .int .u8 b] h (fun y h' => y = .tuple #[] ∧ DY h' Fs x (stepX X b) ∧ Ch (Rg Fs h) h h') := by
  refine acalls_of_W' func34 rfl (by kernel_rfl) (by kernel_rfl) (by simp [ntmps34]) ?_
  intro H
  have I := G.inv
  have P' := P
  obtain ⟨cv, sv, rv, ps, C, S, R, Q⟩ := P
  obtain ⟨l0, l1, l2, l3, l4, l5, l6, l7, l8, l9, l10⟩ := Q.load
  rw [h0] at l8
  have s1 : decide (((0 : Nat) : Int) = 1) = false := by decide
  have s2 : decide (((0 : Nat) : Int) = 2) = false := by decide
  have hS : stepX X b = if 32 ≤ b ∧ b ≠ 127 then feedX X b else ctlX (flushX X) b := by unfold stepX; rw [if_neg (by omega), if_neg (by omega)]
  rw [hS]
  by_cases hc : 32 ≤ b ∧ b ≠ 127
  · have d1 : decide (b < 32) = false := decide_eq_false (by omega)
    have d2 : decide (b = 127) = false := decide_eq_false hc.2
    rw [if_pos hc]
    obtain ⟨h2, e2, O2, z2, C2, _, _⟩ := Q.ro.append1 (P := prog) H (t := 29) underlying29 elem5 fits5 (by decide) (xs := [.int .u8 b]) rfl (by have := G.hl; omega)
    obtain ⟨rv', hrv⟩ : ∃ s, Value.slice (some ⟨h.size + 1, 0, none⟩) (X.held.length + 1) 0 = s := ⟨_, rfl⟩
    have hbk : ∀ z, blkOf rv' = some z → h.size + 1 ≤ z := fun z hz => by rw [← hrv] at hz; exact blk_new z hz
    rw [hrv] at e2 O2
    have CR : Ch (Rg R h) h h2 := C2.mono fun y d => FamV.rg Q.fr d
    have V2 := keepVar H Q.var CR Q.rx
    have htl := Q.xl
    obtain ⟨h3, e3, V3, C3, z3⟩ := V2.store1 (P := prog) (t := 29) (v := rv') (i := 10) (Ch.wf C2) asz29 (by simp [dF]) O2.1.one
    have O3 := Ch.ownR C3 O2 fun y hy e => by have := hbk y hy; omega
    have C23 : Ch (Rg (fun n => R n ∨ n = x) h) h h3 := (CR.mono (D' := Rg (fun n => R n ∨ n = x) h) fun y r => r.mono fun n e => .inl e).then C3 fun y e => .inr (by subst e; exact Q.var.rg (.inr rfl))
    have hO : OwnR prog h3 1 rv' (X.held ++ [b]).length ((X.held ++ [b]).map (Value.int .u8)) := by
      have := O3
      rw [List.length_append, List.length_singleton, List.map_append]; exact this
    obtain ⟨⟨R', Q3⟩, D3⟩ := Q.heldN (X' := { X with held := X.held ++ [b] }) H C23 V3 hO (fun z hz => .inl (by have := hbk z hz; omega)) rfl rfl
    have F := fedN_fed (X.held.length + 1) (X.held ++ [b]) (by simp)
    have hbb : ∀ y, y ∈ X.held ++ [b] → isB y := fun y hy => (List.mem_append.1 hy).elim (G.hb y) fun hy => by obtain rfl := List.mem_singleton.1 hy; exact hb
    have hR := F.isR hbb
    have hfe : feedX X b = { (fedN (X.held.length + 1) (X.held ++ [b])).1.foldl putX X with held := (fedN (X.held.length + 1) (X.held ++ [b])).2 } := rfl
    rw [hfe]
    generalize (fedN (X.held.length + 1) (X.held ++ [b])).1 = l at *
    generalize (fedN (X.held.length + 1) (X.held ++ [b])).2 = s at *
    simp only [wk, wt, wl, ↓reduceIte, Nat.reduceEqDiff, Nat.reduceAdd, Nat.zero_add, not_false_eq_true, not_true_eq_false, pt, l8, s1, s2, d1, d2, l10, bsB, e2, e3]
    refine W_loop (fun tm hh => tm 0 = pt x ∧ Ch (Rg Fs h) h hh ∧ ∃ (Y : TX) (bs l' : List Int), DY hh Fs x { Y with held := bs } ∧ Inv Y ∧ (∀ y, y ∈ bs → isB y) ∧ bs.length ≤ 4 ∧ Fed bs l' s ∧ l.foldl putX X = l'.foldl putX Y ∧ ∀ r, r ∈ l' → isR r)
      (fun tm hh => heldLen hh x) ⟨(by first | rfl | (simp only [wk, wt, wl, ↓reduceIte, Nat.reduceEqDiff, Nat.reduceAdd, Nat.zero_add, not_false_eq_true, not_true_eq_false]; done) | (simp only [wk, wt, wl, ↓reduceIte, Nat.reduceEqDiff, Nat.reduceAdd, Nat.zero_add, not_false_eq_true, not_true_eq_false]; rfl)), D3, X, X.held ++ [b], l, ⟨_, _, _, _, _, _, _, Q3⟩, I, hbb, by have := G.hl; simp; omega, F, rfl, hR⟩ ?_
    clear Q3 D3 hO C23 O3 V3 C3 e3 e2 O2 hbk V2 CR C2
    rintro tm hh ⟨t0, D, Y, bs, l', PY, IY, hby, hln, FY, hfold, hRY⟩
    obtain ⟨cv, sv, rv, ps, C, S, R, Q⟩ := PY
    obtain ⟨m0, m1, m2, m3, m4, m5, m6, m7, m8, m9, m10⟩ := Q.load
    have HL : heldLen hh x = bs.length := Q.heldLen
    have LR : abuiltin prog .len #[29] #[rv] = some (.int .i64 bs.length) := Q.ro.1.len underlying29
    have fin : l' = [] → s = bs → DY hh Fs x { l.foldl putX X with held := s } := fun e1 e2 => by
      rw [hfold, e1, e2]; exact ⟨_, _, _, _, _, _, _, Q⟩
    simp only [wk, wt, wl, ↓reduceIte, Nat.reduceEqDiff, Nat.reduceAdd, Nat.zero_add, not_false_eq_true, not_true_eq_false, t0, pt, m10, LR]
    refine condK_dec (fun hd => ?_) (fun hd => ?_)
    · have RN : RdI prog hh .u8 rv bs := Q.ro.1
      simp only [wk, wt, wl, ↓reduceIte, Nat.reduceEqDiff, Nat.reduceAdd, Nat.zero_add, not_false_eq_true, not_true_eq_false, t0, pt, m10]
      refine (refNext_ok RN hby (by omega)).use ?_
      rintro _ h4 ⟨rfl, K4⟩
      cases hz : nextZ bs with
      | none =>
        have hdet := Fed.det FY (.done hz)
        simp only [wk, wt, wl, ↓reduceIte, Nat.reduceEqDiff, Nat.reduceAdd, Nat.zero_add, not_false_eq_true, not_true_eq_false, nextT, hz]
        exact ⟨by
          have := fin hdet.1 hdet.2
          exact this.keeps (Ch.wf D) K4, D.thenR K4.rg⟩
      | some p =>
        obtain ⟨r, n⟩ := p
        have hle := nextZ_le hz
        obtain ⟨l2, rfl, F2⟩ : ∃ l2, l' = r :: l2 ∧ Fed (bs.drop n) l2 s := by
          cases FY with
          | done e => rw [hz] at e; cases e
          | step e t => rw [hz] at e; cases e; exact ⟨_, rfl, t⟩
        have P4 : DY h4 Fs x { Y with held := bs } := ⟨_, _, _, _, _, _, _, Q.keeps (Ch.wf D) K4⟩
        simp only [wk, wt, wl, ↓reduceIte, Nat.reduceEqDiff, Nat.reduceAdd, Nat.zero_add, not_false_eq_true, not_true_eq_false, nextT, hz, t0, pt]
        refine (refTyped_ok P4 (inv_held IY bs) (hRY r List.mem_cons_self)).use ?_
        rintro _ h5 ⟨rfl, P5, D5⟩
        rw [putX_held] at P5
        obtain ⟨cv5, sv5, rv5, ps5, C5, S5, R5, Q5⟩ := P5
        have m510 := Q5.load.2.2.2.2.2.2.2.2.2.2
        have RN5 : RdI prog h5 .u8 rv5 bs := Q5.ro.1
        have SL := RN5.sliceLo underlying29 asz5 (q := .i64) (i := (n : Int)) (by omega) (by omega)
        simp only [Int.toNat_natCast] at SL
        have H5 := Ch.wf D5
        obtain ⟨h6, e6, V6, C6, z6⟩ := Q5.var.store1 (P := prog) (t := 29) (v := sliceV rv5 1 n bs.length) (i := 10) H5 asz29 (by simp [dF]) (RN5.partLo (L := n) (by omega)).one
        have O6 := Ch.ownR C6 Q5.ro fun y hy e => by
          obtain ⟨k, g, _, _, _, hf, _⟩ := Q5.var
          exact Q5.rx (by have := Q5.fr y k hy (by rw [e]; exact g); rw [hf] at this; exact this)
        have O6' := O6.part (L := n) (H := bs.length) hle.2.1 (Nat.le_refl _)
        have hO : OwnR prog h6 1 (sliceV rv5 1 n bs.length) (bs.drop n).length ((bs.drop n).map (Value.int .u8)) := by
          have e : (List.take ((bs.length - n) * 1) (List.drop (n * 1) (bs.map (Value.int .u8)))) = (bs.drop n).map (Value.int .u8) := by
            rw [Nat.mul_one, Nat.mul_one, List.map_drop, List.take_of_length_le (by simp)]
          rw [List.length_drop, ← e]; exact O6'
        have C6' : Ch (Rg (fun n => R5 n ∨ n = x) h5) h5 h6 := (Ch.varRg Q5.var C6).mono fun y r => r.mono fun n e => .inr e
        obtain ⟨⟨R6, Q6⟩, D6⟩ := Q5.heldN (X' := { putX Y r with held := bs.drop n }) H5 C6' V6 hO (fun z hz => .inr (by rw [sliceV_blk] at hz; exact hz)) rfl rfl
        have HL6 : heldLen h6 x = (bs.drop n).length := Q6.heldLen
        simp only [wk, wt, wl, ↓reduceIte, Nat.reduceEqDiff, Nat.reduceAdd, Nat.zero_add, not_false_eq_true, not_true_eq_false, t0, pt, m510, SL, e6]
        exact ⟨⟨((D.thenR K4.rg).thenR D5).thenR D6, putX Y r, bs.drop n, l2, ⟨_, _, _, _, _, _, _, Q6⟩, inv_put IY r, fun y hy => hby y (List.mem_of_mem_drop hy), by rw [List.length_drop]; omega, F2, hfold, fun y hy => hRY y (List.mem_cons_of_mem _ hy)⟩, by rw [HL, HL6, List.length_drop]; omega⟩
    · have hn : bs = [] := List.eq_nil_of_length_eq_zero (by omega)
      have hz : nextZ bs = none := by rw [hn]; rfl
      have hdet := Fed.det FY (.done hz)
      simp only [wk, wt, wl, ↓reduceIte, Nat.reduceEqDiff, Nat.reduceAdd, Nat.zero_add, not_false_eq_true, not_true_eq_false]
      exact ⟨fin hdet.1 hdet.2, D⟩
  · rw [if_neg hc]
    have P := P'
    by_cases hlt : b < 32
    · have d1 := decide_eq_true hlt
      simp only [wk, wt, wl, ↓reduceIte, Nat.reduceEqDiff, Nat.reduceAdd, Nat.zero_add, not_false_eq_true, not_true_eq_false, pt, l8, s1, s2, d1]
      refine (refFlush_ok P I G.hl).use ?_
      rintro _ h1 ⟨rfl, P1, D1⟩
      obtain ⟨cv1, sv1, rv1, ps1, C1, S1, R1, Q1⟩ := P1
      obtain ⟨h2, e2, V2, C2, z2⟩ := Q1.var.store1 (P := prog) (t := 3) (v := .int .i64 (-1)) (i := 7) (Ch.wf D1) asz3 (by simp [dF]) rfl
      obtain ⟨Q2, D2⟩ := Q1.own (X' := flushX X) (Ch.wf D1) C2 V2 rfl rfl rfl
      have D12 := D1.thenR D2
      have hst2 : (flushX X).st = 0 := (foldl_st).trans h0
      have IZ : Inv (flushX X) := by
        unfold flushX
        exact inv_nolast (inv_held (inv_foldl I) [])
      generalize flushX X = Z at *
      have hcr := IZ.c; have hrr := IZ.r; have hro := IZ.row; have hco := IZ.col
      obtain ⟨m0, m1, m2, m3, m4, m5, m6, m7, m8, m9, m10⟩ := Q2.load
      have P2 : DY h2 Fs x Z := ⟨_, _, _, _, _, _, _, Q2⟩
      by_cases b27 : b = 27
      · have e27 := decide_eq_true b27
        obtain ⟨h3, e3, V3, C3, z3⟩ := Q2.var.store1 (P := prog) (t := 3) (v := .int .i64 1) (i := 8) (Ch.wf C2) asz3 (by simp [dF]) rfl
        obtain ⟨Q3, D3⟩ := Q2.own (X' := { Z with st := 1 }) (Ch.wf C2) C3 V3 rfl rfl rfl
        have hX : ctlX Z b = { Z with st := 1 } := by unfold ctlX; rw [if_pos b27]
        rw [hX]
        simp only [wk, wt, wl, ↓reduceIte, Nat.reduceEqDiff, Nat.reduceAdd, Nat.zero_add, not_false_eq_true, not_true_eq_false, pt, e2, e27, e3]
        exact ⟨⟨_, _, _, _, _, _, _, Q3⟩, D12.thenR D3⟩
      · have e27 := decide_eq_false b27
        by_cases b13 : b = 13
        · have e13 := decide_eq_true b13
          obtain ⟨h3, e3, V3, C3, z3⟩ := Q2.var.store1 (P := prog) (t := 3) (v := .int .i64 0) (i := 4) (Ch.wf C2) asz3 (by simp [dF]) rfl
          obtain ⟨Q3, D3⟩ := Q2.own (X' := { Z with col := 0 }) (Ch.wf C2) C3 V3 rfl rfl rfl
          have hX : ctlX Z b = { Z with col := 0 } := by unfold ctlX; rw [if_neg b27, if_pos b13]
          rw [hX]
          simp only [wk, wt, wl, ↓reduceIte, Nat.reduceEqDiff, Nat.reduceAdd, Nat.zero_add, not_false_eq_true, not_true_eq_false, pt, e2, e27, e13, e3]
          exact ⟨⟨_, _, _, _, _, _, _, Q3⟩, D12.thenR D3⟩
        · have e13 := decide_eq_false b13
          by_cases b10 : b = 10
          · have e10 := decide_eq_true b10
            have hX : ctlX Z b = moveX Z (Z.row + 1) Z.col := by unfold ctlX; rw [if_neg b27, if_neg b13, if_pos b10]
            have w1 : IntKind.i64.wrap (Z.row + 1) = Z.row + 1 := IntWalk.i64_in _ (by omega)
            rw [hX]
            simp only [wk, wt, wl, ↓reduceIte, Nat.reduceEqDiff, Nat.reduceAdd, Nat.zero_add, not_false_eq_true, not_true_eq_false, pt, e2, e27, e13, e10]
            refine adraw_order [(0, false), (1, false), (2, false), (3, false), (4, false), (5, false), (6, false), (7, false), (8, false), (9, false), (10, false), (11, false), (12, false)] mixed (by kernel_rfl) (by kernel_rfl) (by kernel_rfl) (by with_reducible repeat (first | exact PF_retK | refine PF_thenK ?_ | refine PF_blockK ?_)) ?_
            simp only [wk, wt, wl, ↓reduceIte, Nat.reduceEqDiff, Nat.reduceAdd, Nat.zero_add, not_false_eq_true, not_true_eq_false, dK_t, pt, m3, m4, w1]
            refine (refGoes_ok P2 IZ.r IZ.c).use ?_
            rintro _ h3 ⟨rfl, P3, D3⟩
            simp only [wk, wt, wl, ↓reduceIte, Nat.reduceEqDiff, Nat.reduceAdd, Nat.zero_add, not_false_eq_true, not_true_eq_false]
            exact ⟨P3, D12.thenR D3⟩
          · have e10 := decide_eq_false b10
            by_cases b8 : b = 8
            · have e8 := decide_eq_true b8
              have hX : ctlX Z b = moveX Z Z.row (Z.col - 1) := by unfold ctlX; rw [if_neg b27, if_neg b13, if_neg b10, if_pos b8]
              have w1 : IntKind.i64.wrap (Z.col - 1) = Z.col - 1 := IntWalk.i64_in _ (by omega)
              rw [hX]
              simp only [wk, wt, wl, ↓reduceIte, Nat.reduceEqDiff, Nat.reduceAdd, Nat.zero_add, not_false_eq_true, not_true_eq_false, pt, e2, e27, e13, e10, e8]
              refine adraw_order [(0, false), (1, false), (2, false), (3, false), (4, false), (5, false), (6, false), (7, false), (8, false), (9, false), (10, false), (11, false), (12, false)] mixed (by kernel_rfl) (by kernel_rfl) (by kernel_rfl) (by with_reducible repeat (first | exact PF_retK | refine PF_thenK ?_ | refine PF_blockK ?_)) ?_
              simp only [wk, wt, wl, ↓reduceIte, Nat.reduceEqDiff, Nat.reduceAdd, Nat.zero_add, not_false_eq_true, not_true_eq_false, dK_t, pt, m3, m4, w1]
              refine (refGoes_ok P2 IZ.r IZ.c).use ?_
              rintro _ h3 ⟨rfl, P3, D3⟩
              simp only [wk, wt, wl, ↓reduceIte, Nat.reduceEqDiff, Nat.reduceAdd, Nat.zero_add, not_false_eq_true, not_true_eq_false]
              exact ⟨P3, D12.thenR D3⟩
            · have e8 := decide_eq_false b8
              have hX : ctlX Z b = Z := by unfold ctlX; rw [if_neg b27, if_neg b13, if_neg b10, if_neg b8]
              rw [hX]
              simp only [wk, wt, wl, ↓reduceIte, Nat.reduceEqDiff, Nat.reduceAdd, Nat.zero_add, not_false_eq_true, not_true_eq_false, pt, e2, e27, e13, e10, e8]
              exact ⟨P2, D12⟩
    · have d1 := decide_eq_false hlt
      have d2 : decide (b = 127) = true := decide_eq_true (by omega)
      simp only [wk, wt, wl, ↓reduceIte, Nat.reduceEqDiff, Nat.reduceAdd, Nat.zero_add, not_false_eq_true, not_true_eq_false, pt, l8, s1, s2, d1, d2]
      refine (refFlush_ok P I G.hl).use ?_
      rintro _ h1 ⟨rfl, P1, D1⟩
      obtain ⟨cv1, sv1, rv1, ps1, C1, S1, R1, Q1⟩ := P1
      obtain ⟨h2, e2, V2, C2, z2⟩ := Q1.var.store1 (P := prog) (t := 3) (v := .int .i64 (-1)) (i := 7) (Ch.wf D1) asz3 (by simp [dF]) rfl
      obtain ⟨Q2, D2⟩ := Q1.own (X' := flushX X) (Ch.wf D1) C2 V2 rfl rfl rfl
      have D12 := D1.thenR D2
      have hst2 : (flushX X).st = 0 := (foldl_st).trans h0
      have IZ : Inv (flushX X) := by
        unfold flushX
        exact inv_nolast (inv_held (inv_foldl I) [])
      generalize flushX X = Z at *
      have hcr := IZ.c; have hrr := IZ.r; have hro := IZ.row; have hco := IZ.col
      obtain ⟨m0, m1, m2, m3, m4, m5, m6, m7, m8, m9, m10⟩ := Q2.load
      have P2 : DY h2 Fs x Z := ⟨_, _, _, _, _, _, _, Q2⟩
      by_cases b27 : b = 27
      · have e27 := decide_eq_true b27
        obtain ⟨h3, e3, V3, C3, z3⟩ := Q2.var.store1 (P := prog) (t := 3) (v := .int .i64 1) (i := 8) (Ch.wf C2) asz3 (by simp [dF]) rfl
        obtain ⟨Q3, D3⟩ := Q2.own (X' := { Z with st := 1 }) (Ch.wf C2) C3 V3 rfl rfl rfl
        have hX : ctlX Z b = { Z with st := 1 } := by unfold ctlX; rw [if_pos b27]
        rw [hX]
        simp only [wk, wt, wl, ↓reduceIte, Nat.reduceEqDiff, Nat.reduceAdd, Nat.zero_add, not_false_eq_true, not_true_eq_false, pt, e2, e27, e3]
        exact ⟨⟨_, _, _, _, _, _, _, Q3⟩, D12.thenR D3⟩
      · have e27 := decide_eq_false b27
        by_cases b13 : b = 13
        · have e13 := decide_eq_true b13
          obtain ⟨h3, e3, V3, C3, z3⟩ := Q2.var.store1 (P := prog) (t := 3) (v := .int .i64 0) (i := 4) (Ch.wf C2) asz3 (by simp [dF]) rfl
          obtain ⟨Q3, D3⟩ := Q2.own (X' := { Z with col := 0 }) (Ch.wf C2) C3 V3 rfl rfl rfl
          have hX : ctlX Z b = { Z with col := 0 } := by unfold ctlX; rw [if_neg b27, if_pos b13]
          rw [hX]
          simp only [wk, wt, wl, ↓reduceIte, Nat.reduceEqDiff, Nat.reduceAdd, Nat.zero_add, not_false_eq_true, not_true_eq_false, pt, e2, e27, e13, e3]
          exact ⟨⟨_, _, _, _, _, _, _, Q3⟩, D12.thenR D3⟩
        · have e13 := decide_eq_false b13
          by_cases b10 : b = 10
          · have e10 := decide_eq_true b10
            have hX : ctlX Z b = moveX Z (Z.row + 1) Z.col := by unfold ctlX; rw [if_neg b27, if_neg b13, if_pos b10]
            have w1 : IntKind.i64.wrap (Z.row + 1) = Z.row + 1 := IntWalk.i64_in _ (by omega)
            rw [hX]
            simp only [wk, wt, wl, ↓reduceIte, Nat.reduceEqDiff, Nat.reduceAdd, Nat.zero_add, not_false_eq_true, not_true_eq_false, pt, e2, e27, e13, e10]
            refine adraw_order [(0, false), (1, false), (2, false), (3, false), (4, false), (5, false), (6, false), (7, false), (8, false), (9, false), (10, false), (11, false), (12, false)] mixed (by kernel_rfl) (by kernel_rfl) (by kernel_rfl) (by with_reducible repeat (first | exact PF_retK | refine PF_thenK ?_ | refine PF_blockK ?_)) ?_
            simp only [wk, wt, wl, ↓reduceIte, Nat.reduceEqDiff, Nat.reduceAdd, Nat.zero_add, not_false_eq_true, not_true_eq_false, dK_t, pt, m3, m4, w1]
            refine (refGoes_ok P2 IZ.r IZ.c).use ?_
            rintro _ h3 ⟨rfl, P3, D3⟩
            simp only [wk, wt, wl, ↓reduceIte, Nat.reduceEqDiff, Nat.reduceAdd, Nat.zero_add, not_false_eq_true, not_true_eq_false]
            exact ⟨P3, D12.thenR D3⟩
          · have e10 := decide_eq_false b10
            by_cases b8 : b = 8
            · have e8 := decide_eq_true b8
              have hX : ctlX Z b = moveX Z Z.row (Z.col - 1) := by unfold ctlX; rw [if_neg b27, if_neg b13, if_neg b10, if_pos b8]
              have w1 : IntKind.i64.wrap (Z.col - 1) = Z.col - 1 := IntWalk.i64_in _ (by omega)
              rw [hX]
              simp only [wk, wt, wl, ↓reduceIte, Nat.reduceEqDiff, Nat.reduceAdd, Nat.zero_add, not_false_eq_true, not_true_eq_false, pt, e2, e27, e13, e10, e8]
              refine adraw_order [(0, false), (1, false), (2, false), (3, false), (4, false), (5, false), (6, false), (7, false), (8, false), (9, false), (10, false), (11, false), (12, false)] mixed (by kernel_rfl) (by kernel_rfl) (by kernel_rfl) (by with_reducible repeat (first | exact PF_retK | refine PF_thenK ?_ | refine PF_blockK ?_)) ?_
              simp only [wk, wt, wl, ↓reduceIte, Nat.reduceEqDiff, Nat.reduceAdd, Nat.zero_add, not_false_eq_true, not_true_eq_false, dK_t, pt, m3, m4, w1]
              refine (refGoes_ok P2 IZ.r IZ.c).use ?_
              rintro _ h3 ⟨rfl, P3, D3⟩
              simp only [wk, wt, wl, ↓reduceIte, Nat.reduceEqDiff, Nat.reduceAdd, Nat.zero_add, not_false_eq_true, not_true_eq_false]
              exact ⟨P3, D12.thenR D3⟩
            · have e8 := decide_eq_false b8
              have hX : ctlX Z b = Z := by unfold ctlX; rw [if_neg b27, if_neg b13, if_neg b10, if_neg b8]
              rw [hX]
              simp only [wk, wt, wl, ↓reduceIte, Nat.reduceEqDiff, Nat.reduceAdd, Nat.zero_add, not_false_eq_true, not_true_eq_false, pt, e2, e27, e13, e10, e8]
              exact ⟨P2, D12⟩
end
end Go.Proofs.YtefpalmihdbmiaaDoor.Am
end
section
/- The document's terminal: contracts of one and Write, by walks; its steps for laws. -/
set_option linter.unusedSimpArgs false
set_option linter.unusedVariables false
set_option maxHeartbeats 4000000
set_option maxRecDepth 20000
namespace Go.Proofs.YtefpalmihdbmiaaDoor.Am
open Go Go.RowKit Go.Proofs.Tryd
section
variable {h0 h h' : Heap} {Fs Gs : Nat → Prop} {x : Nat} {X X' : TX} {cv sv rv bv : Value} {ps : List PC} {C S R : Nat → Prop} {b : Int}
theorem one_behind (P : DY h Fs x X) (h1 : X.st = 1) :
    ACalls prog 34 #[pt x, .int .u8 b] h (fun y h' => y = .tuple #[] ∧ DY h' Fs x (stepX X b) ∧ Ch (Rg Fs h) h h') := by
  refine acalls_of_W' func34 rfl (by kernel_rfl) (by kernel_rfl) (by simp [ntmps34]) ?_
  intro H
  obtain ⟨cv, sv, rv, ps, C, S, R, Q⟩ := P
  obtain ⟨l0, l1, l2, l3, l4, l5, l6, l7, l8, l9, l10⟩ := Q.load
  rw [h1] at l8
  have s1 : decide (((1 : Nat) : Int) = 1) = true := by decide
  obtain ⟨h2, e2, V2, C2, z2⟩ := Q.var.store1 (P := prog) (t := 3) (v := .int .i64 0) (i := 8) H asz3 (by simp [dF]) rfl
  obtain ⟨Q2, D2⟩ := Q.own (X' := { X with st := 0 }) H C2 V2 rfl rfl rfl
  by_cases b91 : b = 91
  · have d := decide_eq_true b91
    have hX : stepX X b = { X with st := 2, seq := [] } := by unfold stepX; rw [if_pos h1, if_pos b91]
    rw [hX]
    obtain ⟨h3, e3, V3, C3, z3⟩ := Q2.var.store1 (P := prog) (t := 3) (v := .int .i64 2) (i := 8) (Ch.wf C2) asz3 (by simp [dF]) rfl
    obtain ⟨Q3, D3⟩ := Q2.own (X' := { X with st := 2 }) (Ch.wf C2) C3 V3 rfl rfl rfl
    obtain ⟨h4, e4, V4, C4, z4⟩ := Q3.var.store1 (P := prog) (t := 29) (v := .slice none 0 0) (i := 9) (Ch.wf C3) asz29 (by simp [dF]) rfl
    have K : Ch (Rg (fun n => S n ∨ n = x) h3) h3 h4 := (Ch.varRg Q3.var C4).mono fun y r => r.mono fun n e => .inr e
    obtain ⟨⟨S', Q4⟩, D4⟩ := Q3.seqN (X' := { X with st := 2, seq := [] }) (Ch.wf C3) K V4 OwnR.nil0 (fun z e => by cases e) rfl rfl
    simp only [wk, wt, wl, ↓reduceIte, Nat.reduceEqDiff, Nat.reduceAdd, Nat.zero_add, not_false_eq_true, not_true_eq_false, pt, l8, s1, e2, d, e3, e4]
    exact ⟨⟨_, _, _, _, _, _, _, Q4⟩, (D2.thenR D3).thenR D4⟩
  · have d := decide_eq_false b91
    have hX : stepX X b = { X with st := 0 } := by unfold stepX; rw [if_pos h1, if_neg b91]
    rw [hX]
    simp only [wk, wt, wl, ↓reduceIte, Nat.reduceEqDiff, Nat.reduceAdd, Nat.zero_add, not_false_eq_true, not_true_eq_false, pt, l8, s1, e2, d]
    exact ⟨⟨_, _, _, _, _, _, _, Q2⟩, D2⟩
theorem one_inside (P : DY h Fs x X) (G : Good X) (h2 : X.st = 2) :
    ACalls prog 34 #[pt x, .int .u8 b] h (fun y h' => y = .tuple #[] ∧ DY h' Fs x (stepX X b) ∧ Ch (Rg Fs h) h h') := by
  refine acalls_of_W' func34 rfl (by kernel_rfl) (by kernel_rfl) (by simp [ntmps34]) ?_
  intro H
  obtain ⟨cv, sv, rv, ps, C, S, R, Q⟩ := P
  obtain ⟨l0, l1, l2, l3, l4, l5, l6, l7, l8, l9, l10⟩ := Q.load
  rw [h2] at l8
  have s1 : decide (((2 : Nat) : Int) = 1) = false := by decide
  have s2 : decide (((2 : Nat) : Int) = 2) = true := by decide
  have LS := Q.so.1.len underlying29
  have hsl := G.sl
  by_cases hin : 32 ≤ b ∧ b ≤ 63
  · have d1 := decide_eq_true hin.1
    have d2 := decide_eq_true hin.2
    by_cases h32 : X.seq.length < 32
    · have d3 : decide ((X.seq.length : Int) < 32) = true := decide_eq_true (by omega)
      have hX : stepX X b = { X with seq := X.seq ++ [b] } := by unfold stepX; rw [if_neg (by omega), if_pos h2, if_pos hin, if_pos h32]
      rw [hX]
      obtain ⟨h2', e2, O2, z2, C2, _, _⟩ := Q.so.append1 (P := prog) H (t := 29) underlying29 elem5 fits5 (by decide) (xs := [.int .u8 b]) rfl (by omega)
      obtain ⟨sv', hsv⟩ : ∃ s, Value.slice (some ⟨h.size + 1, 0, none⟩) (X.seq.length + 1) 0 = s := ⟨_, rfl⟩
      have hbk : ∀ z, blkOf sv' = some z → h.size + 1 ≤ z := fun z hz => by rw [← hsv] at hz; exact blk_new z hz
      rw [hsv] at e2 O2
      have CR : Ch (Rg S h) h h2' := C2.mono fun y d => FamV.rg Q.fs d
      have V2 := keepVar H Q.var CR Q.sx
      have htl := Q.xl
      obtain ⟨h3, e3, V3, C3, z3⟩ := V2.store1 (P := prog) (t := 29) (v := sv') (i := 9) (Ch.wf C2) asz29 (by simp [dF]) O2.1.one
      have O3 := Ch.ownR C3 O2 fun y hy e => by have := hbk y hy; omega
      have C23 : Ch (Rg (fun n => S n ∨ n = x) h) h h3 := (CR.mono (D' := Rg (fun n => S n ∨ n = x) h) fun y r => r.mono fun n e => .inl e).then C3 fun y e => .inr (by subst e; exact Q.var.rg (.inr rfl))
      have hO : OwnR prog h3 1 sv' (X.seq ++ [b]).length ((X.seq ++ [b]).map (Value.int .u8)) := by
        have := O3
        rw [List.length_append, List.length_singleton, List.map_append]; exact this
      obtain ⟨⟨S', Q3⟩, D3⟩ := Q.seqN (X' := { X with seq := X.seq ++ [b] }) H C23 V3 hO (fun z hz => .inl (by have := hbk z hz; omega)) rfl rfl
      simp only [wk, wt, wl, ↓reduceIte, Nat.reduceEqDiff, Nat.reduceAdd, Nat.zero_add, not_false_eq_true, not_true_eq_false, pt, l8, s1, s2, d1, d2, l9, LS, d3, bsB, e2, e3]
      exact ⟨⟨_, _, _, _, _, _, _, Q3⟩, D3⟩
    · have d3 : decide ((X.seq.length : Int) < 32) = false := decide_eq_false (by omega)
      have hX : stepX X b = X := by unfold stepX; rw [if_neg (by omega), if_pos h2, if_pos hin, if_neg h32]
      rw [hX]
      simp only [wk, wt, wl, ↓reduceIte, Nat.reduceEqDiff, Nat.reduceAdd, Nat.zero_add, not_false_eq_true, not_true_eq_false, pt, l8, s1, s2, d1, d2, l9, LS, d3]
      exact ⟨⟨_, _, _, _, _, _, _, Q⟩, (Keeps.refl H).rg⟩
  · obtain ⟨h2', e2, V2, C2, z2⟩ := Q.var.store1 (P := prog) (t := 3) (v := .int .i64 0) (i := 8) H asz3 (by simp [dF]) rfl
    obtain ⟨Q2, D2⟩ := Q.own (X' := { X with st := 0 }) H C2 V2 rfl rfl rfl
    have P2 : DY h2' Fs x { X with st := 0 } := ⟨_, _, _, _, _, _, _, Q2⟩
    have m9 := Q2.load.2.2.2.2.2.2.2.2.2.1
    have RS2 : RdI prog h2' .u8 sv X.seq := Q2.so.1
    have fin0 : stepX X b = { X with st := 0 } → DY h2' Fs x (stepX X b) ∧ Ch (Rg Fs h) h h2' := fun e => by rw [e]; exact ⟨P2, D2⟩
    by_cases hm : 64 ≤ b ∧ b < 127
    · have d4 := decide_eq_true hm.1
      have d5 : decide (b ≤ 126) = true := decide_eq_true (by omega)
      have d1 : decide (32 ≤ b) = true := decide_eq_true (by omega)
      have d2 : decide (b ≤ 63) = false := decide_eq_false (by omega)
      have hX : stepX X b = { seqX X X.seq b with st := 0 } := by unfold stepX; rw [if_neg (by omega), if_pos h2, if_neg hin, if_pos hm]
      rw [hX, ← seqX_st]
      simp only [wk, wt, wl, ↓reduceIte, Nat.reduceEqDiff, Nat.reduceAdd, Nat.zero_add, not_false_eq_true, not_true_eq_false, pt, l8, s1, s2, d1, d2, e2, d4, d5, m9]
      refine (refSequence_ok P2 (inv_st G.inv 0 X.seq) RS2 G.sb hsl).use ?_
      rintro _ h3 ⟨rfl, P3, D3⟩
      simp only [wk, wt, wl, ↓reduceIte, Nat.reduceEqDiff, Nat.reduceAdd, Nat.zero_add, not_false_eq_true, not_true_eq_false]
      exact ⟨P3, D2.thenR D3⟩
    · have hX : stepX X b = { X with st := 0 } := by unfold stepX; rw [if_neg (by omega), if_pos h2, if_neg hin, if_neg hm]
      by_cases b1 : b < 32
      · have d1 : decide (32 ≤ b) = false := decide_eq_false (by omega)
        have d4 : decide (64 ≤ b) = false := decide_eq_false (by omega)
        simp only [wk, wt, wl, ↓reduceIte, Nat.reduceEqDiff, Nat.reduceAdd, Nat.zero_add, not_false_eq_true, not_true_eq_false, pt, l8, s1, s2, d1, e2, d4]
        exact fin0 hX
      · have d1 : decide (32 ≤ b) = true := decide_eq_true (by omega)
        have d2 : decide (b ≤ 63) = false := decide_eq_false (by omega)
        have d4 : decide (64 ≤ b) = true := decide_eq_true (by omega)
        have d5 : decide (b ≤ 126) = false := decide_eq_false (by omega)
        simp only [wk, wt, wl, ↓reduceIte, Nat.reduceEqDiff, Nat.reduceAdd, Nat.zero_add, not_false_eq_true, not_true_eq_false, pt, l8, s1, s2, d1, d2, e2, d4, d5]
        exact fin0 hX
theorem refOne_ok (P : DY h Fs x X) (G : Good X) (hb : isB b) :
    ACalls prog 34 #[pt x, .int .u8 b] h (fun y h' => y = .tuple #[] ∧ DY h' Fs x (stepX X b) ∧ Ch (Rg Fs h) h h') := by
  have := G.st
  by_cases h0 : X.st = 0
  · exact one_plain P G h0 hb
  · by_cases h1 : X.st = 1
    · exact one_behind P h1
    · exact one_inside P G (by omega)
theorem refWrite_ok {bs : List Int} (P : DY h Fs x X) (G : Good X) (R : RdI prog h .u8 bv bs) (hbv : Fam h (fun n => ¬ Fs n) bv) (hb : ∀ y, y ∈ bs → isB y) (hl : bs.length ≤ 1000000) :
    ACalls prog 14 #[pt x, bv] h (fun y h' => y = .tuple #[] ∧ DY h' Fs x (writeX X bs) ∧ Ch (Rg Fs h) h h') := by
  refine acalls_of_W' func14 rfl (by kernel_rfl) (by kernel_rfl) (by simp [ntmps14]) ?_
  intro H
  simp only [wk, wt, wl, ↓reduceIte, Nat.reduceEqDiff, Nat.reduceAdd, Nat.zero_add, not_false_eq_true, not_true_eq_false]
  refine W_loop (fun tm hh => tm 0 = pt x ∧ tm 1 = bv ∧ Ch (Rg Fs h) h hh ∧ ∃ (i : Nat) (Y : TX), tm 4 = .int .i64 (i : Int) ∧ i ≤ bs.length ∧ DY hh Fs x Y ∧ Good Y ∧ writeX X bs = writeX Y (bs.drop i))
    (fun tm _ => (bs.length - intOf (tm 4)).toNat) ⟨(by first | rfl | (simp only [wk, wt, wl, ↓reduceIte, Nat.reduceEqDiff, Nat.reduceAdd, Nat.zero_add, not_false_eq_true, not_true_eq_false]; done) | (simp only [wk, wt, wl, ↓reduceIte, Nat.reduceEqDiff, Nat.reduceAdd, Nat.zero_add, not_false_eq_true, not_true_eq_false]; rfl)), (by first | rfl | (simp only [wk, wt, wl, ↓reduceIte, Nat.reduceEqDiff, Nat.reduceAdd, Nat.zero_add, not_false_eq_true, not_true_eq_false]; done) | (simp only [wk, wt, wl, ↓reduceIte, Nat.reduceEqDiff, Nat.reduceAdd, Nat.zero_add, not_false_eq_true, not_true_eq_false]; rfl)), (Keeps.refl H).rg, 0, X, (by first | rfl | (simp only [wk, wt, wl, ↓reduceIte, Nat.reduceEqDiff, Nat.reduceAdd, Nat.zero_add, not_false_eq_true, not_true_eq_false]; done) | (simp only [wk, wt, wl, ↓reduceIte, Nat.reduceEqDiff, Nat.reduceAdd, Nat.zero_add, not_false_eq_true, not_true_eq_false]; rfl)), by omega, P, G, rfl⟩ ?_
  rintro tm hh ⟨t0, t1, D, i, Y, t4, hi, PY, GY, hw⟩
  have R1 : RdI prog hh .u8 bv bs := Ch.rd D R (hbv.apart (Gs := Fs) fun n a b => a b)
  have LB := R1.len underlying29
  simp only [wk, wt, wl, ↓reduceIte, Nat.reduceEqDiff, Nat.reduceAdd, Nat.zero_add, not_false_eq_true, not_true_eq_false, t0, t1, t4, LB]
  refine condK_dec (fun hd => ?_) (fun hd => ?_)
  · have hi1 : i < bs.length := by omega
    have IX := R1.index underlying29 asz5 (q := .i64) (i := (i : Int)) (by omega) (by omega)
    have LX := R1.at (i := i) (t := 5) underlying5 rfl hi1
    simp only [Int.toNat_natCast] at IX
    have hdr : bs.drop i = bs.getD i 0 :: bs.drop (i + 1) := by rw [List.drop_eq_getElem_cons hi1]; congr 1; simp [List.getD, List.getElem?_eq_getElem hi1]
    have hxb : isB (bs.getD i 0) := hb _ (by simp [List.getD, List.getElem?_eq_getElem hi1])
    rw [hdr] at hw
    have hw : writeX X bs = writeX (stepX Y (bs.getD i 0)) (bs.drop (i + 1)) := hw
    have wi : IntKind.i64.wrap ((i : Int) + 1) = ((i + 1 : Nat) : Int) := by rw [IntWalk.i64_in _ (by omega)]; omega
    simp only [wk, wt, wl, ↓reduceIte, Nat.reduceEqDiff, Nat.reduceAdd, Nat.zero_add, not_false_eq_true, not_true_eq_false, t0, t1, t4, IX, LX]
    refine (refOne_ok PY GY hxb).use ?_
    rintro _ h2 ⟨rfl, P2, D2⟩
    simp only [wk, wt, wl, ↓reduceIte, Nat.reduceEqDiff, Nat.reduceAdd, Nat.zero_add, not_false_eq_true, not_true_eq_false, t0, t1, t4, wi, intOf_int]
    exact ⟨⟨D.thenR D2, i + 1, _, rfl, by omega, P2, good_step GY hxb, hw⟩, by omega⟩
  · obtain rfl : i = bs.length := by omega
    rw [List.drop_length] at hw
    have hw : writeX X bs = Y := hw
    simp only [wk, wt, wl, ↓reduceIte, Nat.reduceEqDiff, Nat.reduceAdd, Nat.zero_add, not_false_eq_true, not_true_eq_false]
    rw [hw]
    exact ⟨PY, D⟩
/-- The document's terminal between calls. -/
structure DD (h0 h : Heap) (Fs : Nat → Prop) (x : Nat) (X : TX) : Prop where
  pm : DY h Fs x X
  good : Good X
  k : Keeps h0 h
  f : ∀ n, Fs n → h0.size ≤ n
theorem DD.up (T : DD h0 h Fs x X) : ∀ n, h.size ≤ n → Fs n := by
  obtain ⟨cv, sv, rv, ps, C, S, R, Q⟩ := T.pm
  exact Q.up
theorem DD.wf (T : DD h0 h Fs x X) : Wf h := Ch.wf T.k
theorem DD.aside (T : DD h0 h Fs x X) (K : Ch (Rg Gs h) h h') (hd : ∀ n, n < h.size → Fs n → ¬ Gs n) (hg : ∀ n, Gs n → h0.size ≤ n) : DD h0 h' (Nar Fs h.size h'.size) x X := by
  obtain ⟨cv, sv, rv, ps, C, S, R, Q⟩ := T.pm
  have hle := Ch.le T.k
  have hle2 := Ch.le K
  exact ⟨⟨_, _, _, _, _, _, _, Q.aside T.wf K hd⟩, T.good, T.k.step K fun y ⟨k, g, f⟩ => Nat.le_trans (hg _ f) (T.wf.2 y k g), fun n hn => hn.elim (fun hn => T.f n hn.1) fun hn => by omega⟩
theorem DD.keeps (T : DD h0 h Fs x X) (K : Keeps h h') : DD h0 h' (Nar Fs h.size h'.size) x X := T.aside (Gs := fun _ => False) K.rg (fun n _ _ e => e) fun n e => e.elim
theorem newDD {r c : Int} {h : Heap} : ACalls prog 11 #[.int .i64 r, .int .i64 c] h (fun y h' => ∃ x, y = pt x ∧ h.size ≤ x ∧ DD h h' (fun n => h.size ≤ n) x (newX r c) ∧ Keeps h h') := by
  refine refNew_ok.mono ?_
  rintro y h' ⟨x, rfl, hx, P, K⟩
  exact ⟨x, rfl, hx, ⟨P, good_new r c, K, fun n hn => hn⟩, K⟩
theorem DD.write {bs : List Int} (T : DD h0 h Fs x X) (R : RdI prog h .u8 bv bs) (hbv : Fam h (fun n => ¬ Fs n) bv) (hb : ∀ y, y ∈ bs → isB y) (hl : bs.length ≤ 1000000) :
    ACalls prog 14 #[pt x, bv] h (fun y h' => y = .tuple #[] ∧ DD h0 h' Fs x (writeX X bs) ∧ Ch (Rg Fs h) h h') := by
  refine (refWrite_ok T.pm T.good R hbv hb hl).mono ?_
  rintro y h' ⟨rfl, P, K⟩
  exact ⟨rfl, ⟨P, good_write T.good hb, T.k.step K fun y ⟨k, g, f⟩ => Nat.le_trans (T.f _ f) (T.wf.2 y k g), T.f⟩, K⟩
theorem DD.resize (T : DD h0 h Fs x X) {r c : Int} : ACalls prog 29 #[pt x, .int .i64 r, .int .i64 c] h (fun y h' => y = .tuple #[] ∧ DD h0 h' Fs x (resizeX X r c) ∧ Ch (Rg Fs h) h h') := by
  refine (refResize_ok T.pm).mono ?_
  rintro y h' ⟨rfl, P, K⟩
  exact ⟨rfl, ⟨P, good_resize T.good r c, T.k.step K fun y ⟨k, g, f⟩ => Nat.le_trans (T.f _ f) (T.wf.2 y k g), T.f⟩, K⟩
theorem DD.base {h1 : Heap} (T : DD h1 h Fs x X) (K : Keeps h0 h1) : DD h0 h Fs x X := ⟨T.pm, T.good, K.trans T.k, fun n hn => Nat.le_trans (Ch.le K) (T.f n hn)⟩
/-- Its grid, where it lies. -/
theorem DD.gd (T : DD h0 h Fs x X) : ∃ cv, aload prog h 38 ⟨x, 0, none⟩ = some (gV X cv) ∧ GD h Fs cv X.cells ∧ aload prog h 3 ⟨x, 5, none⟩ = some (.int .i64 X.attr) ∧ aload prog h 4 ⟨x, 6, none⟩ = some (.bool X.hid) := by
  obtain ⟨cv, sv, rv, ps, C, S, R, Q⟩ := T.pm
  have LG := Q.var.loadP (P := prog) (t := 38) (i := 0) (s := 5) underlying38 rfl asz38 (by simp [dF])
  simp only [dF, List.drop_zero, List.take_succ_cons, List.take_zero] at LG
  exact ⟨cv, LG, ⟨ps, Q.gp.eq, Q.gp.rs, Q.fc.mono fun n hn => Q.mF n (.inl hn), fun p hp => ⟨Q.gp.rd p hp, (Q.gp.off p hp).mono fun n hn => hn.1⟩⟩, Q.load.2.2.2.2.2.1, Q.load.2.2.2.2.2.2.1⟩
end
end Go.Proofs.YtefpalmihdbmiaaDoor.Am
end
section
/- Digits as text, by a walk; texts as bytes. -/
set_option linter.unusedSimpArgs false
set_option linter.unusedVariables false
set_option maxHeartbeats 4000000
set_option maxRecDepth 20000
namespace Go.Proofs.YtefpalmihdbmiaaDoor.Am
open Go Go.RowKit Go.Proofs.Tryd
theorem anums_map : ∀ b : List Int, anums (b.map (Value.int .u8)) = some b
  | [] => rfl
  | x :: b => by simp [anums, anums_map b]
theorem conv_str {h : Heap} {v : Value} {b : List Int} (R : RdI prog h .u8 v b) : aconv prog h 29 9 v = some (.string (strOfNums b)) := by
  obtain ⟨hl, h3⟩ := R
  rcases h3 with ⟨h0, rfl | rfl⟩ | ⟨b', o, c, k, rfl, hb, hk, hlv, ha, ho, hc⟩
  · have : b = [] := List.eq_nil_of_length_eq_zero h0
    subst this
    simp [aconv, underlying29, underlying9, underlying5, isU8]; rfl
  · have : b = [] := List.eq_nil_of_length_eq_zero h0
    subst this
    simp [aconv, underlying29, underlying9, underlying5, isU8]; rfl
  · simp only [Nat.mul_one] at ho hc
    simp only [aconv, underlying29, underlying9, underlying5, isU8, hk, hlv, ho, and_self, if_true, hc, anums_map]
theorem strApp {a b : List Int} : strOfNums a ++ strOfNums b = strOfNums (a ++ b) := by
  apply ByteArray.ext
  rw [ByteArray.data_append]
  simp [strOfNums]
theorem strAdd {a b : List Int} (h : a.length + b.length ≤ 1000) : abin prog .add 9 (.string (strOfNums a)) (.string (strOfNums b)) = some (.string (strOfNums (a ++ b))) := by
  have h2 : (strOfNums a).size + (strOfNums b).size ≤ 9223372036854775807 := by rw [strOfNums_size, strOfNums_size]; omega
  simp [abin, astr, h2, strApp]
theorem bytesStr : ∀ {l : List Int}, (∀ x, x ∈ l → isB x) → bytesV (strOfNums l) = l.map (Value.int .u8)
  | [], _ => rfl
  | x :: l, h => by
    have ih := bytesStr (l := l) fun y hy => h y (List.mem_cons_of_mem _ hy)
    have hx := h x List.mem_cons_self
    simp only [isB] at hx
    unfold bytesV at ih ⊢
    rw [strOfNums_data] at ih ⊢
    simp only [List.map_cons, ih]
    congr 1
    have : (UInt8.ofNat x.toNat).toNat = x.toNat := by rw [UInt8.toNat_ofNat']; omega
    rw [this]; congr 1; omega
theorem convS {h : Heap} {l : List Int} (hl : ∀ x, x ∈ l → isB x) : aconv prog h 9 29 (.string (strOfNums l)) = none ∧ aconvE prog h 9 29 (.string (strOfNums l)) = some (.slice (some ⟨h.size, 0, none⟩) l.length 0, h.new 5 (l.map (Value.int .u8))) := by
  have hb := bytesStr hl
  refine ⟨by simp [aconv, underlying9, underlying29], ?_⟩
  have hs := strOfNums_size l
  simp [aconvE, underlying9, underlying29, underlying5, asz5, hb, hs]
theorem digits_ok : ∀ (k : Nat) (n : Int) (h : Heap), 0 ≤ n → n < 10 ^ (k + 1) → k ≤ 3 → ACalls prog 25 #[.int .i64 n] h (fun y h' => y = .string (strOfNums (digF k n)) ∧ Keeps h h') := by
  have small : ∀ (n : Int) (h : Heap), 0 ≤ n → n < 10 → ACalls prog 25 #[.int .i64 n] h (fun y h' => y = .string (strOfNums [48 + n]) ∧ Keeps h h') := fun n h h0 h1 => by
    refine acalls_of_W' func25 rfl (by kernel_rfl) (by kernel_rfl) (by simp [ntmps25]) ?_
    intro H
    have d0 := decide_eq_true h1
    have w0 : IntKind.i64.wrap (48 + n) = 48 + n := IntWalk.i64_in _ (by omega)
    have w1 : IntKind.u8.wrap (48 + n) = 48 + n := IntWalk.u8_in _ (by omega)
    have cv : ∀ h, aconv prog h 3 5 (.int .i64 (48 + n)) = some (.int .u8 (48 + n)) := fun h => by simp [aconv, underlying3, underlying5, w1]
    have R1 : RdI prog (h.new 5 [.int .u8 (48 + n)]) .u8 (.slice (some ⟨h.size, 0, none⟩) 1 2) [48 + n] := Rd.new H asz5 rfl
    have cs := conv_str R1
    simp only [wk, wt, wl, ↓reduceIte, Nat.reduceEqDiff, Nat.reduceAdd, Nat.zero_add, not_false_eq_true, not_true_eq_false, d0, w0, cv, bsB, cs]
    exact Keeps.new H 5 [.int .u8 (48 + n)]
  intro k
  induction k with
  | zero =>
    intro n h h0 h1 _
    exact small n h h0 (by simpa using h1)
  | succ k ih =>
    intro n h h0 h1 hk
    by_cases hn : n < 10
    · have e : digF (k + 1) n = [48 + n] := by show (if n < 10 then [48 + n] else digF k (n / 10) ++ [48 + n % 10]) = _; rw [if_pos hn]
      rw [e]; exact small n h h0 hn
    · have e : digF (k + 1) n = digF k (n / 10) ++ [48 + n % 10] := by show (if n < 10 then [48 + n] else digF k (n / 10) ++ [48 + n % 10]) = _; rw [if_neg hn]
      rw [e]
      have hp : (10 : Int) ^ (k + 1 + 1) ≤ 10 ^ 5 := by
        have : k = 0 ∨ k = 1 ∨ k = 2 := by omega
        rcases this with rfl | rfl | rfl <;> decide
      have hn5 : n < 100000 := by
        have : (10 : Int) ^ 5 = 100000 := by decide
        omega
      have hlen := digF_len k (n / 10)
      refine acalls_of_W' func25 rfl (by kernel_rfl) (by kernel_rfl) (by simp [ntmps25]) ?_
      intro H
      have d0 := decide_eq_false hn
      have rm := abin_rem (P := prog) (t := 3) (k := .i64) (x := n) (y := 10) (by decide)
      have qo := abin_quo (P := prog) (t := 3) (k := .i64) (x := n) (y := 10) (by decide)
      rw [Int.tmod_eq_emod_of_nonneg h0] at rm
      rw [Int.tdiv_eq_ediv_of_nonneg h0] at qo
      have wr : IntKind.i64.wrap (n % 10) = n % 10 := IntWalk.i64_in _ (by omega)
      have wq : IntKind.i64.wrap (n / 10) = n / 10 := IntWalk.i64_in _ (by omega)
      have w0 : IntKind.i64.wrap (48 + n % 10) = 48 + n % 10 := IntWalk.i64_in _ (by omega)
      have w1 : IntKind.u8.wrap (48 + n % 10) = 48 + n % 10 := IntWalk.u8_in _ (by omega)
      have cv : ∀ h, aconv prog h 3 5 (.int .i64 (48 + n % 10)) = some (.int .u8 (48 + n % 10)) := fun h => by simp [aconv, underlying3, underlying5, w1]
      have sa := strAdd (a := digF k (n / 10)) (b := [48 + n % 10]) (by simp; omega)
      have N1 := Keeps.new H 5 [.int .u8 (48 + n % 10)]
      have R1 : RdI prog (h.new 5 [.int .u8 (48 + n % 10)]) .u8 (.slice (some ⟨h.size, 0, none⟩) 1 2) [48 + n % 10] := Rd.new H asz5 rfl
      have cs1 := conv_str R1
      have hlt : n / 10 < 10 ^ (k + 1) := by rw [Int.pow_succ] at h1; omega
      simp only [wk, wt, wl, ↓reduceIte, Nat.reduceEqDiff, Nat.reduceAdd, Nat.zero_add, not_false_eq_true, not_true_eq_false, d0]
      refine adraw_tree (.cons 0 false (.cons 1 false (.cons 3 false (.cons 4 false (.cons 5 false (.cons 6 false (.two 2 7 (.cons 7 false (.cons 8 false (.cons 9 false (.cons 10 false .nil)))) (.cons 8 false (.cons 2 true (.cons 9 false (.cons 10 false .nil))))))))))) mixed (by kernel_rfl) (by kernel_rfl) (by kernel_rfl) (by with_reducible repeat (first | exact PF_retK | refine PF_thenK ?_ | refine PF_blockK ?_)) ?_
      simp only [wk, wt, wl, ↓reduceIte, Nat.reduceEqDiff, Nat.reduceAdd, Nat.zero_add, not_false_eq_true, not_true_eq_false, TRo_nil, TRo_cons, TRo_two, trK_some, dK_t, qo, wq, rm, wr, w0, cv, bsB, cs1]
      refine ⟨?_, ?_⟩
      · refine (ih (n / 10) h (by omega) hlt (by omega)).use ?_
        rintro _ h2 ⟨rfl, K2⟩
        have N2 := Keeps.new (Ch.wf K2) 5 [.int .u8 (48 + n % 10)]
        have R2 : RdI prog (h2.new 5 [.int .u8 (48 + n % 10)]) .u8 (.slice (some ⟨h2.size, 0, none⟩) 1 2) [48 + n % 10] := Rd.new (Ch.wf K2) asz5 rfl
        have cs2 := conv_str R2
        simp only [wk, wt, wl, ↓reduceIte, Nat.reduceEqDiff, Nat.reduceAdd, Nat.zero_add, not_false_eq_true, not_true_eq_false, TRo_nil, TRo_cons, trK_some, dK_t, qo, wq, rm, wr, w0, cv, bsB, cs2, sa]
        exact ⟨K2.reads H, K2.trans N2⟩
      · refine ⟨N1.reads H, ?_⟩
        refine (ih (n / 10) _ (by omega) hlt (by omega)).use ?_
        rintro _ h2 ⟨rfl, K2⟩
        simp only [wk, wt, wl, ↓reduceIte, Nat.reduceEqDiff, Nat.reduceAdd, Nat.zero_add, not_false_eq_true, not_true_eq_false, TRo_nil, TRo_cons, trK_some, dK_t, qo, wq, rm, wr, w0, cv, sa]
        exact ⟨K2.reads (Ch.wf N1), N1.trans K2⟩
end Go.Proofs.YtefpalmihdbmiaaDoor.Am
end
section
/- TermTypes, told of abstract memory: it answers true. -/
set_option linter.unusedSimpArgs false
set_option linter.unusedVariables false
set_option maxHeartbeats 4000000
set_option maxRecDepth 20000
namespace Go.Proofs.YtefpalmihdbmiaaDoor.Am
open Go Go.RowKit Go.Proofs.Tryd
def wsum (W : List Int) : Nat := (layL W).length
theorem layL_app {a b : List Int} : layL (a ++ b) = layL a ++ layL b := by simp [layL]
theorem wsum_one {r : Int} (h : widthZ r ≠ 0) : (wsum [r] : Int) = widthZ r := by
  have := layC_len h
  simpa [wsum, layL] using this
theorem wsum_app {a b : List Int} : wsum (a ++ b) = wsum a + wsum b := by simp [wsum, layL_app]
theorem lay_at {W : List Int} {i : Nat} {r : Int} (hi : W[i]? = some r) : (layL W)[wsum (W.take i)]? = some ⟨[r], 0, decide (widthZ r = 2)⟩ := by
  have hlt := (List.getElem?_eq_some_iff.1 hi).1
  have hr := (List.getElem?_eq_some_iff.1 hi).2
  have e : W = W.take i ++ (r :: W.drop (i + 1)) := by
    conv => lhs; rw [← List.take_append_drop i W, List.drop_eq_getElem_cons hlt, hr]
  have h2 : layL W = layL (W.take i) ++ (layC r ++ layL (W.drop (i + 1))) := by
    conv => lhs; rw [e]
    rw [layL_app]; rfl
  rw [h2]
  unfold wsum
  rw [List.getElem?_append_right (Nat.le_refl _), Nat.sub_self]
  unfold layC
  split
  · rename_i h; simp [h]
  · rename_i h; simp [h]
theorem wsum_step {W : List Int} {i : Nat} {r : Int} (hi : W[i]? = some r) (hw : widthZ r ≠ 0) : ((wsum (W.take (i + 1)) : Nat) : Int) = (wsum (W.take i) : Int) + widthZ r := by
  have e : W.take (i + 1) = W.take i ++ [r] := by rw [List.take_add_one, hi]; rfl
  rw [e, wsum_app]
  have := wsum_one hw
  omega
theorem wsum_le {W : List Int} (i : Nat) : wsum (W.take i) ≤ wsum W := by
  conv => rhs; rw [← List.take_append_drop i W, wsum_app]
  omega
/-- Behind the typing. -/
theorem typed_all {r c ro co : Int} {W : List Int} (h0 : 0 ≤ ro ∧ ro < sizeR r) (h1 : 0 ≤ co ∧ co < sizeC c) (hW : ∀ y, y ∈ W → showL y = [y] ∧ widthZ y ≠ 0) (hs : co + (wsum W : Int) ≤ sizeC c) :
    ∃ (X : TX) (base m : Nat), writeX (writeX (newX r c) (atL (ro + 1) (co + 1))) (encL W) = X ∧ X.rows = sizeR r ∧ X.cols = sizeC c ∧ X.row = ro ∧ X.col = imin (co + (wsum W : Int)) (sizeC c - 1) ∧ (base : Int) = ro * sizeC c + co ∧ X.cells = List.replicate base (bl 0) ++ (layL W ++ List.replicate m (bl 0)) ∧ base + wsum W + m = (blankL r c).length := by
  have hR := sizeR_bd r
  have hC := sizeC_bd c
  obtain ⟨s, e1⟩ := gotoX (X := newX r c) (a := ro + 1) (b := co + 1) rfl rfl (by omega) (by omega)
  have hm0 : 0 ≤ ro * sizeC c := Int.mul_nonneg h0.1 (by omega)
  have hm1 : (ro + 1) * sizeC c ≤ sizeR r * sizeC c := Int.mul_le_mul_of_nonneg_right (by omega) (by omega)
  rw [Int.add_mul, Int.one_mul] at hm1
  have hbl := blankL_len r c
  obtain ⟨base, hb⟩ : ∃ base : Nat, ro * sizeC c + co = (base : Int) := ⟨(ro * sizeC c + co).toNat, by omega⟩
  have hc0 : clampZ (ro + 1 - 1) (sizeR r) = ro := by
    have M1 := imax_spec (ro + 1 - 1) 0
    have M2 := imin_spec (imax (ro + 1 - 1) 0) (sizeR r - 1)
    unfold clampZ; omega
  have hc1 : clampZ (co + 1 - 1) (sizeC c) = co := by
    have M1 := imax_spec (co + 1 - 1) 0
    have M2 := imin_spec (imax (co + 1 - 1) 0) (sizeC c - 1)
    unfold clampZ; omega
  obtain ⟨X1, hX1⟩ : ∃ X1 : TX, X1 = { moveX (newX r c) (ro + 1 - 1) (co + 1 - 1) with last := none, seq := s } := ⟨_, rfl⟩
  rw [← hX1] at e1
  have x1 : X1.row = ro := by rw [hX1]; exact hc0
  have x2 : X1.col = co := by rw [hX1]; exact hc1
  have x3 : X1.cols = sizeC c := by rw [hX1]; rfl
  have x4 : X1.rows = sizeR r := by rw [hX1]; rfl
  have x5 : X1.st = 0 ∧ X1.held = [] ∧ X1.attr = 0 := by rw [hX1]; exact ⟨rfl, rfl, rfl⟩
  have x6 : X1.cells = List.replicate base (bl 0) ++ List.replicate ((blankL r c).length - base) (bl 0) := by
    rw [hX1]
    show blankL r c = _
    rw [List.replicate_append_replicate]
    have : blankL r c = List.replicate (blankL r c).length (bl 0) := by unfold blankL; simp
    rw [show base + ((blankL r c).length - base) = (blankL r c).length by omega]
    exact this
  obtain ⟨t1, t2, t3, t4, t5⟩ := typeX W X1 (List.replicate base (bl 0)) ((blankL r c).length - base) x6 x5.2.2 (.inr ⟨by rw [x1, x2, x3, List.length_replicate]; exact hb, by rw [x2, x3]; exact hs⟩) (by omega) (by omega) (by unfold wsum at hs; omega) hW
  refine ⟨_, base, (blankL r c).length - base - wsum W, rfl, ?_, ?_, ?_, ?_, hb.symm, ?_, by unfold wsum at hs ⊢; omega⟩
  · rw [e1, writeX_runes x5.1 x5.2.1 fun y hy => (hW y hy).1]; exact t4.trans x4
  · rw [e1, writeX_runes x5.1 x5.2.1 fun y hy => (hW y hy).1]; exact t5.trans x3
  · rw [e1, writeX_runes x5.1 x5.2.1 fun y hy => (hW y hy).1]; exact t2.trans x1
  · rw [e1, writeX_runes x5.1 x5.2.1 fun y hy => (hW y hy).1]; rw [x2, x3] at t3; exact t3
  · rw [e1, writeX_runes x5.1 x5.2.1 fun y hy => (hW y hy).1]; exact t1
theorem mod_row {a n : Int} (hn : 2 ≤ n ∧ n ≤ 1000) : 0 ≤ (a.tmod n + n).tmod n ∧ (a.tmod n + n).tmod n < n ∧ -n < a.tmod n ∧ a.tmod n < n := by
  have h1 := Int.tmod_lt_of_pos a (show 0 < n by omega)
  have h2 := Int.lt_tmod_of_pos a (show 0 < n by omega)
  have h3 : 0 ≤ a.tmod n + n := by omega
  rw [Int.tmod_eq_emod_of_nonneg h3]
  exact ⟨Int.emod_nonneg _ (by omega), Int.emod_lt_of_pos _ (by omega), h2, h1⟩
end Go.Proofs.YtefpalmihdbmiaaDoor.Am
end
section
/- TermTypes, told of abstract memory: the walk. -/
set_option linter.unusedSimpArgs false
set_option linter.unusedVariables false
set_option maxHeartbeats 4000000
set_option maxRecDepth 20000
namespace Go.Proofs.YtefpalmihdbmiaaDoor.Am
open Go Go.RowKit Go.Proofs.Tryd
theorem atL_isB {a b : Int} (ha : 0 ≤ a ∧ a < 10000) (hb : 0 ≤ b ∧ b < 10000) : ∀ x, x ∈ atL a b → isB x := by
  have d1 := digF_bd 3 a (by omega) (by omega)
  have d2 := digF_bd 3 b (by omega) (by omega)
  intro x hx
  unfold atL at hx
  simp only [List.mem_append, List.mem_cons, List.not_mem_nil, or_false] at hx
  simp only [isB]
  rcases hx with (hx | hx) | hx | hx | hx | hx
  · omega
  · omega
  · have := d1 x hx; omega
  · omega
  · have := d2 x hx; omega
  · omega
theorem termTypes_law {h : Heap} {r c ro0 co0 : Int} {lv : Value} {l : List Int} (G : Gl h) (R : RdI prog h .i32 lv l) (hr : ∀ j, isR (l.getD j 0)) :
    ACalls prog 6 #[szV r c, .int .i64 ro0, .int .i64 co0, lv] h (fun y h' => y = .bool true ∧ Keeps h h') := by
  refine acalls_of_W' func6 rfl (by kernel_rfl) (by kernel_rfl) (by simp [ntmps6]) ?_
  intro H
  have N1 := Keeps.new H 23 [.int .i64 r, .int .i64 c]
  have V1 := Var.new (e := 23) H (cs := [.int .i64 r, .int .i64 c])
  have R1 := R.keeps N1
  have G1 := G.keeps N1
  have PE := fun {a : Addr} => ptr_some (P := prog) (a := a) underlying25
  simp only [szV]
  simp only [wk, wt, wl, ↓reduceIte, Nat.reduceEqDiff, Nat.reduceAdd, Nat.zero_add, not_false_eq_true, not_true_eq_false, aeff_box, boxV_size]
  generalize h.new 23 [.int .i64 r, .int .i64 c] = h1 at *
  obtain ⟨S0, S1⟩ := loadSize V1
  have LL := R1.len underlying44
  simp only [wk, wt, wl, ↓reduceIte, Nat.reduceEqDiff, Nat.reduceAdd, Nat.zero_add, not_false_eq_true, not_true_eq_false, S0, S1]
  refine (few_ok (h := h1) (r := r) (c := c) (bv := .slice none 0 0) (b := []) Rd.nil0).use ?_
  rintro _ hx ⟨⟨q, rfl, hq⟩, hh⟩
  have hh := hh.symm
  subst hh
  cases q with
  | false => simp only [wk, wt, wl, ↓reduceIte, Nat.reduceEqDiff, Nat.reduceAdd, Nat.zero_add, not_false_eq_true, not_true_eq_false, Bool.not_false]; exact N1
  | true =>
    by_cases h100 : 100 < (l.length : Int)
    · have d100 := decide_eq_true h100
      simp only [wk, wt, wl, ↓reduceIte, Nat.reduceEqDiff, Nat.reduceAdd, Nat.zero_add, not_false_eq_true, not_true_eq_false, Bool.not_true, LL, d100]
      exact N1
    · have d100 := decide_eq_false h100
      simp only [wk, wt, wl, ↓reduceIte, Nat.reduceEqDiff, Nat.reduceAdd, Nat.zero_add, not_false_eq_true, not_true_eq_false, Bool.not_true, LL, d100, S0, S1]
      refine (newTT G1 (r := r) (c := c)).use ?_
      rintro _ h2 ⟨t, rfl, ht, T2, K2⟩
      simp only [wk, wt, wl, ↓reduceIte, Nat.reduceEqDiff, Nat.reduceAdd, Nat.zero_add, not_false_eq_true, not_true_eq_false, pt, PE]
      refine T2.grid.use ?_
      rintro _ h3 ⟨gv, rfl, A3, T3, K3⟩
      generalize Nar _ _ _ = F3 at T3 A3
      have hR := sizeR_bd r
      have hC := sizeC_bd c
      obtain ⟨h4, e4, V4, K4, z4⟩ := putGrid T3.wf (r := sizeR r) (c := sizeC c) (v := gv) (y := 0) (x := 0) A3.one
      have A4 := A3.nar T3.up K4
      have T4 := T3.keeps K4
      have f4 : ¬ Nar F3 h3.size h4.size h3.size := nar_not (Nat.le_refl _) z4
      generalize Nar F3 h3.size h4.size = F4 at *
      obtain ⟨g0, g1, g2, _⟩ := loadGrid V4
      have LG := A4.len
      have hbl := blankL_len r c
      have hcl : (newX r c).cells = blankL r c := rfl
      rw [hcl] at LG A4
      have wm : IntKind.i64.wrap (sizeR r * sizeC c) = ((blankL r c).length : Int) := by
        rw [hbl]
        have h2 : sizeR r * sizeC c ≤ 500 * 1000 := Int.mul_le_mul (by omega) (by omega) (by omega) (by omega)
        have h3 := Int.mul_nonneg (show 0 ≤ sizeR r by omega) (show 0 ≤ sizeC c by omega)
        exact IntWalk.i64_in _ (by omega)
      have hmx : (blankL r c).length ≤ 500000 := T2.len.2
      have e1 : decide (sizeR r < 1) = false := decide_eq_false (by omega)
      have e2 : decide (sizeC c < 1) = false := decide_eq_false (by omega)
      have e3 : decide (500 < sizeR r) = false := decide_eq_false (by omega)
      have e5 : decide (1000 < sizeC c) = false := decide_eq_false (by omega)
      have e6 : decide (¬ ((blankL r c).length : Int) = ((blankL r c).length : Int)) = false := decide_eq_false fun e => e rfl
      simp only [wk, wt, wl, ↓reduceIte, Nat.reduceEqDiff, Nat.reduceAdd, Nat.zero_add, not_false_eq_true, not_true_eq_false, gV, newX, e4, pt, g0, g1, g2, LG, wm, e1, e2, e3, e5, e6]
      refine adraw_order [(0, false), (1, false), (2, false), (3, false), (4, false), (5, false), (6, false), (7, false), (8, false), (9, false), (10, false), (11, false), (12, false), (13, false), (14, false), (15, false), (16, false), (17, false), (18, false), (19, false), (20, false), (21, false)] mixed (by kernel_rfl) (by kernel_rfl) (by kernel_rfl) (by with_reducible repeat (first | exact PF_retK | refine PF_thenK ?_ | refine PF_blockK ?_)) ?_
      have hRn : sizeR r ≠ 0 := by omega
      have hCn : sizeC c ≠ 0 := by omega
      obtain ⟨ro1, ro2, ro3, ro4⟩ := mod_row (a := ro0) (n := sizeR r) (by omega)
      obtain ⟨co1, co2, co3, co4⟩ := mod_row (a := co0) (n := sizeC c) (by omega)
      have q1 := abin_rem (P := prog) (t := 3) (k := .i64) (x := ro0) (y := sizeR r) hRn
      have q2 := abin_rem (P := prog) (t := 3) (k := .i64) (x := ro0.tmod (sizeR r) + sizeR r) (y := sizeR r) hRn
      have q3 := abin_rem (P := prog) (t := 3) (k := .i64) (x := co0) (y := sizeC c) hCn
      have q4 := abin_rem (P := prog) (t := 3) (k := .i64) (x := co0.tmod (sizeC c) + sizeC c) (y := sizeC c) hCn
      have v1 : IntKind.i64.wrap (ro0.tmod (sizeR r)) = ro0.tmod (sizeR r) := IntWalk.i64_in _ (by omega)
      have v2 : IntKind.i64.wrap (ro0.tmod (sizeR r) + sizeR r) = ro0.tmod (sizeR r) + sizeR r := IntWalk.i64_in _ (by omega)
      have v3 : IntKind.i64.wrap ((ro0.tmod (sizeR r) + sizeR r).tmod (sizeR r)) = (ro0.tmod (sizeR r) + sizeR r).tmod (sizeR r) := IntWalk.i64_in _ (by omega)
      have v4 : IntKind.i64.wrap (co0.tmod (sizeC c)) = co0.tmod (sizeC c) := IntWalk.i64_in _ (by omega)
      have v5 : IntKind.i64.wrap (co0.tmod (sizeC c) + sizeC c) = co0.tmod (sizeC c) + sizeC c := IntWalk.i64_in _ (by omega)
      have v6 : IntKind.i64.wrap ((co0.tmod (sizeC c) + sizeC c).tmod (sizeC c)) = (co0.tmod (sizeC c) + sizeC c).tmod (sizeC c) := IntWalk.i64_in _ (by omega)
      simp only [wk, wt, wl, ↓reduceIte, Nat.reduceEqDiff, Nat.reduceAdd, Nat.zero_add, not_false_eq_true, not_true_eq_false, dK_t, pt, g0, g1, q1, q2, q3, q4, v1, v2, v3, v4, v5, v6]
      generalize (ro0.tmod (sizeR r) + sizeR r).tmod (sizeR r) = ro at *
      generalize (co0.tmod (sizeC c) + sizeC c).tmod (sizeC c) = co at *
      have K14 : Keeps h1 h4 := T4.env.k
      refine W_loop (fun tm hh => tm 1 = .int .i64 ro ∧ tm 2 = .int .i64 co ∧ tm 3 = lv ∧ tm 9 = pt t ∧ tm 10 = pt h3.size ∧ Keeps h4 hh ∧ ∃ (i : Nat) (W : List Int) (wv : Value), tm 13 = .int .i64 (i : Int) ∧ i ≤ l.length ∧ tm 11 = wv ∧ tm 12 = .int .i64 (wsum W : Int) ∧ W.length ≤ i ∧ Own prog h4.size hh 1 wv W.length (W.map (Value.int .i32)) ∧ (∀ z, blkOf wv = some z → h4.size ≤ z) ∧ co + (wsum W : Int) ≤ sizeC c ∧ ∀ y, y ∈ W → (showL y = [y] ∧ widthZ y ≠ 0) ∧ isR y)
        (fun tm _ => (l.length - intOf (tm 13)).toNat) ⟨(by first | rfl | (simp only [wk, wt, wl, ↓reduceIte, Nat.reduceEqDiff, Nat.reduceAdd, Nat.zero_add, not_false_eq_true, not_true_eq_false]; done) | (simp only [wk, wt, wl, ↓reduceIte, Nat.reduceEqDiff, Nat.reduceAdd, Nat.zero_add, not_false_eq_true, not_true_eq_false]; rfl)), (by first | rfl | (simp only [wk, wt, wl, ↓reduceIte, Nat.reduceEqDiff, Nat.reduceAdd, Nat.zero_add, not_false_eq_true, not_true_eq_false]; done) | (simp only [wk, wt, wl, ↓reduceIte, Nat.reduceEqDiff, Nat.reduceAdd, Nat.zero_add, not_false_eq_true, not_true_eq_false]; rfl)), (by first | rfl | (simp only [wk, wt, wl, ↓reduceIte, Nat.reduceEqDiff, Nat.reduceAdd, Nat.zero_add, not_false_eq_true, not_true_eq_false]; done) | (simp only [wk, wt, wl, ↓reduceIte, Nat.reduceEqDiff, Nat.reduceAdd, Nat.zero_add, not_false_eq_true, not_true_eq_false]; rfl)), (by first | rfl | (simp only [wk, wt, wl, ↓reduceIte, Nat.reduceEqDiff, Nat.reduceAdd, Nat.zero_add, not_false_eq_true, not_true_eq_false]; done) | (simp only [wk, wt, wl, ↓reduceIte, Nat.reduceEqDiff, Nat.reduceAdd, Nat.zero_add, not_false_eq_true, not_true_eq_false]; rfl)), (by first | rfl | (simp only [wk, wt, wl, ↓reduceIte, Nat.reduceEqDiff, Nat.reduceAdd, Nat.zero_add, not_false_eq_true, not_true_eq_false]; done) | (simp only [wk, wt, wl, ↓reduceIte, Nat.reduceEqDiff, Nat.reduceAdd, Nat.zero_add, not_false_eq_true, not_true_eq_false]; rfl)), Keeps.refl T4.wf, 0, [], .slice none 0 0, (by first | rfl | (simp only [wk, wt, wl, ↓reduceIte, Nat.reduceEqDiff, Nat.reduceAdd, Nat.zero_add, not_false_eq_true, not_true_eq_false]; done) | (simp only [wk, wt, wl, ↓reduceIte, Nat.reduceEqDiff, Nat.reduceAdd, Nat.zero_add, not_false_eq_true, not_true_eq_false]; rfl)), by omega, (by first | rfl | (simp only [wk, wt, wl, ↓reduceIte, Nat.reduceEqDiff, Nat.reduceAdd, Nat.zero_add, not_false_eq_true, not_true_eq_false]; done) | (simp only [wk, wt, wl, ↓reduceIte, Nat.reduceEqDiff, Nat.reduceAdd, Nat.zero_add, not_false_eq_true, not_true_eq_false]; rfl)), (by first | rfl | (simp only [wk, wt, wl, ↓reduceIte, Nat.reduceEqDiff, Nat.reduceAdd, Nat.zero_add, not_false_eq_true, not_true_eq_false]; done) | (simp only [wk, wt, wl, ↓reduceIte, Nat.reduceEqDiff, Nat.reduceAdd, Nat.zero_add, not_false_eq_true, not_true_eq_false]; rfl)), by simp, Own.nil0, fun z hz => (by cases hz), by show co + ((0 : Nat) : Int) ≤ sizeC c; omega, fun y hy => (by cases hy)⟩ ?_
      rintro tm hh ⟨t1, t2, t3, t9, t10, K, i, W, wv, t13, hi, t11, t12, hWi, O, hwz, hroom, hW⟩
      have K1h := K14.trans K
      have RH := R1.keeps K1h
      simp only [wk, wt, wl, ↓reduceIte, Nat.reduceEqDiff, Nat.reduceAdd, Nat.zero_add, not_false_eq_true, not_true_eq_false, t1, t2, t3, t9, t10, t11, t12, t13, RH.len underlying44]
      refine condK_dec (fun hd => ?_) (fun hd => ?_)
      · have hi1 : i < l.length := by omega
        have IX := RH.index underlying44 asz21 (q := .i64) (i := (i : Int)) (by omega) (by omega)
        have LX := RH.at (i := i) (t := 21) underlying21 rfl hi1
        simp only [Int.toNat_natCast] at IX
        have hy := hr i
        generalize hyy : l.getD i 0 = y at *
        have wi : IntKind.i64.wrap ((i : Int) + 1) = ((i + 1 : Nat) : Int) := by rw [IntWalk.i64_in _ (by omega)]; omega
        have hwl := widthZ_le y
        have HK := Ch.wf K
        have NS := Keeps.new HK 21 ((showL y).map (Value.int .i32))
        have RS : RdI prog (hh.new 21 ((showL y).map (Value.int .i32))) .i32 (.slice (some ⟨hh.size, 0, none⟩) (showL y).length ((showL y).length + 1)) (showL y) := rdI_new HK
        have LS := RS.len underlying44
        have RHS := RH.keeps NS
        have IXS := RHS.index underlying44 asz21 (q := .i64) (i := (i : Int)) (by omega) (by omega)
        have LXS := RHS.at (i := i) (t := 21) underlying21 rfl hi1
        simp only [Int.toNat_natCast] at IXS
        rw [hyy] at LXS
        have OS := O.keeps NS
        have KS := K.trans NS
        obtain ⟨gg0, gg1, _⟩ := loadGrid (Keeps.var T4.wf KS V4)
        have skip : ∀ {hz : Heap}, Keeps h4 hz → Own prog h4.size hz 1 wv W.length (W.map (Value.int .i32)) → Keeps h4 hz ∧ ∃ (i' : Nat) (W' : List Int) (wv' : Value), ((i + 1 : Nat) : Int) = (i' : Int) ∧ i' ≤ l.length ∧ wv = wv' ∧ (wsum W : Int) = (wsum W' : Int) ∧ W'.length ≤ i' ∧ Own prog h4.size hz 1 wv' W'.length (W'.map (Value.int .i32)) ∧ (∀ z, blkOf wv' = some z → h4.size ≤ z) ∧ co + (wsum W' : Int) ≤ sizeC c ∧ ∀ y, y ∈ W' → (showL y = [y] ∧ widthZ y ≠ 0) ∧ isR y := fun k o => ⟨k, i + 1, W, wv, rfl, by omega, rfl, rfl, by omega, o, hwz, hroom, hW⟩
        simp only [wk, wt, wl, ↓reduceIte, Nat.reduceEqDiff, Nat.reduceAdd, Nat.zero_add, not_false_eq_true, not_true_eq_false, t1, t2, t3, t9, t10, t11, t12, t13, IX, LX]
        refine refWidth_ok.use_pure ?_
        simp only [wk, wt, wl, ↓reduceIte, Nat.reduceEqDiff, Nat.reduceAdd, Nat.zero_add, not_false_eq_true, not_true_eq_false, t1, t2, t3, t9, t10, t11, t12, t13, IX, LX]
        refine (refShow_ok hy).use_pure ?_
        generalize hh.new 21 ((showL y).map (Value.int .i32)) = hs at *
        simp only [wk, wt, wl, ↓reduceIte, Nat.reduceEqDiff, Nat.reduceAdd, Nat.zero_add, not_false_eq_true, not_true_eq_false, t1, t2, t3, t9, t10, t11, t12, t13]
        refine adraw_order [(0, false), (1, false), (2, false), (3, false), (4, false), (5, false), (6, false), (7, false), (8, false), (9, false), (10, false), (11, false), (12, false), (13, false), (14, false), (15, false), (16, false), (17, false), (18, false), (19, false), (20, false), (21, false), (22, false), (23, false), (24, false), (25, false), (26, false)] mixed (by kernel_rfl) (by kernel_rfl) (by kernel_rfl) (by with_reducible repeat (first | exact PF_retK | refine PF_thenK ?_ | refine PF_blockK ?_)) ?_
        by_cases hw0 : 0 < widthZ y
        · have d1 := decide_eq_true hw0
          rcases show_cases y with g | ⟨_, g⟩ | ⟨x, g, hx⟩
          · have d2 : decide (((showL y).length : Int) = 1) = true := decide_eq_true (by rw [g]; rfl)
            have IS := RS.index underlying44 asz21 (q := .i64) (i := (0 : Int)) (by omega) (by rw [g]; simp)
            have LS0 := RS.at (i := 0) (t := 21) underlying21 rfl (by rw [g]; simp)
            have hg0 : (showL y).getD 0 0 = y := by rw [g]; rfl
            rw [hg0] at LS0
            simp only [show (0 : Int).toNat = 0 from rfl] at IS
            have d3 : decide (y = y) = true := decide_eq_true rfl
            have w1 : IntKind.i64.wrap ((wsum W : Int) + widthZ y) = (wsum W : Int) + widthZ y := IntWalk.i64_in _ (by omega)
            have w2 : IntKind.i64.wrap (sizeC c - co) = sizeC c - co := IntWalk.i64_in _ (by omega)
            by_cases hfit : (wsum W : Int) + widthZ y ≤ sizeC c - co
            · have d4 := decide_eq_true hfit
              obtain ⟨wv', h6, e7, O7, C7, R7, ev7, _⟩ := OS.append1 (P := prog) (Ch.wf KS) (Ch.le KS) (t := 44) underlying44 elem21 fits21 (by decide) (by decide) (xs := [.int .i32 y]) rfl (by omega)
              have K7 := KS.step C7 fun b hb => hb.2
              have B1 : abuildSlice prog hs 44 1 #[(0, .int .i32 y)] = some (.slice (some ⟨hs.size, 0, none⟩) 1 2, hs.new 21 [.int .i32 y]) := build1 underlying44 asz21 azero21 rfl rfl
              have hy0 : widthZ y ≠ 0 := by omega
              have hsum : ((wsum (W ++ [y]) : Nat) : Int) = (wsum W : Int) + widthZ y := by rw [wsum_app]; have := wsum_one hy0; omega
              have hles := Ch.le KS
              simp only [wk, wt, wl, ↓reduceIte, Nat.reduceEqDiff, Nat.reduceAdd, Nat.zero_add, not_false_eq_true, not_true_eq_false, dK_t, t1, t2, t3, t9, t10, t11, t12, t13, pt, d1, LS, d2, IS, LS0, IXS, LXS, d3, w1, gg1, w2, d4, B1, e7, wi, intOf_int]
              refine ⟨⟨K7, i + 1, W ++ [y], wv', rfl, by omega, rfl, by rw [hsum], by simp; omega, ?_, fun z hz => ?_, by omega, fun z hz => ?_⟩, by omega⟩
              · rw [List.length_append, List.length_singleton, List.map_append]
                exact O7
              · rw [ev7] at hz
                have := blk_new z hz; omega
              · rcases List.mem_append.1 hz with hz | hz
                · exact hW z hz
                · obtain rfl := List.mem_singleton.1 hz
                  exact ⟨⟨g, hy0⟩, hy⟩
            · have d4 := decide_eq_false hfit
              simp only [wk, wt, wl, ↓reduceIte, Nat.reduceEqDiff, Nat.reduceAdd, Nat.zero_add, not_false_eq_true, not_true_eq_false, dK_t, t1, t2, t3, t9, t10, t11, t12, t13, pt, d1, LS, d2, IS, LS0, IXS, LXS, d3, w1, gg1, w2, d4, wi, intOf_int]
              exact ⟨⟨KS, i + 1, W, wv, rfl, by omega, rfl, rfl, by omega, OS, hwz, hroom, hW⟩, by omega⟩
          · have d2 : decide (((showL y).length : Int) = 1) = false := decide_eq_false (by omega)
            simp only [wk, wt, wl, ↓reduceIte, Nat.reduceEqDiff, Nat.reduceAdd, Nat.zero_add, not_false_eq_true, not_true_eq_false, dK_t, t1, t2, t3, t9, t10, t11, t12, t13, pt, d1, LS, d2, wi, intOf_int]
            exact ⟨⟨KS, i + 1, W, wv, rfl, by omega, rfl, rfl, by omega, OS, hwz, hroom, hW⟩, by omega⟩
          · have d2 : decide (((showL y).length : Int) = 1) = true := decide_eq_true (by rw [g]; rfl)
            have IS := RS.index underlying44 asz21 (q := .i64) (i := (0 : Int)) (by omega) (by rw [g]; simp)
            have LS0 := RS.at (i := 0) (t := 21) underlying21 rfl (by rw [g]; simp)
            have hg0 : (showL y).getD 0 0 = x := by rw [g]; rfl
            rw [hg0] at LS0
            simp only [show (0 : Int).toNat = 0 from rfl] at IS
            have d3 : decide (x = y) = false := decide_eq_false hx
            simp only [wk, wt, wl, ↓reduceIte, Nat.reduceEqDiff, Nat.reduceAdd, Nat.zero_add, not_false_eq_true, not_true_eq_false, dK_t, t1, t2, t3, t9, t10, t11, t12, t13, pt, d1, LS, d2, IS, LS0, IXS, LXS, d3, wi, intOf_int]
            exact ⟨⟨KS, i + 1, W, wv, rfl, by omega, rfl, rfl, by omega, OS, hwz, hroom, hW⟩, by omega⟩
        · have d1 := decide_eq_false hw0
          simp only [wk, wt, wl, ↓reduceIte, Nat.reduceEqDiff, Nat.reduceAdd, Nat.zero_add, not_false_eq_true, not_true_eq_false, dK_t, t1, t2, t3, t9, t10, t11, t12, t13, pt, d1, wi, intOf_int]
          exact ⟨⟨KS, i + 1, W, wv, rfl, by omega, rfl, rfl, by omega, OS, hwz, hroom, hW⟩, by omega⟩
      · have T5 := T4.keeps K
        have A5 := A4.nar T4.up K
        have V5 := Keeps.var T4.wf K V4
        have f5 := nar_sub (a := h4.size) (b := hh.size) f4 (by have := Ch.le K; omega)
        have FW : Fam hh (fun n => ¬ Nar F4 h4.size hh.size n) wv := off_new K hwz
        have RW : RdI prog hh .i32 wv W := O.1
        have hwlt : ∀ z, blkOf wv = some z → z < hh.size := fun z hz => (RW.blk_lt hz).1
        have hWl : W.length ≤ 100 := by omega
        generalize Nar F4 h4.size hh.size = F5 at *
        have w1 : IntKind.i64.wrap (ro + 1) = ro + 1 := IntWalk.i64_in _ (by omega)
        have w2 : IntKind.i64.wrap (co + 1) = co + 1 := IntWalk.i64_in _ (by omega)
        have dl1 := digF_len 3 (ro + 1)
        have dl2 := digF_len 3 (co + 1)
        simp only [wk, wt, wl, ↓reduceIte, Nat.reduceEqDiff, Nat.reduceAdd, Nat.zero_add, not_false_eq_true, not_true_eq_false, t1, t2, t3, t9, t10, t11, t12, w1]
        refine (digits_ok 3 (ro + 1) hh (by omega) (by omega) (by omega)).use ?_
        rintro _ h6 ⟨rfl, K6⟩
        have sa1 : abin prog .add 9 (.string ⟨#[27, 91]⟩) (.string (strOfNums (digF 3 (ro + 1)))) = some (.string (strOfNums ([27, 91] ++ digF 3 (ro + 1)))) := strAdd (a := [27, 91]) (by simp; omega)
        have sa2 : abin prog .add 9 (.string (strOfNums ([27, 91] ++ digF 3 (ro + 1)))) (.string ⟨#[59]⟩) = some (.string (strOfNums (([27, 91] ++ digF 3 (ro + 1)) ++ [59]))) := strAdd (b := [59]) (by simp; omega)
        simp only [wk, wt, wl, ↓reduceIte, Nat.reduceEqDiff, Nat.reduceAdd, Nat.zero_add, not_false_eq_true, not_true_eq_false, sa1, sa2, t1, t2, t3, t9, t10, t11, t12, w2]
        refine (digits_ok 3 (co + 1) h6 (by omega) (by omega) (by omega)).use ?_
        rintro _ h7 ⟨rfl, K7⟩
        have sa3 : abin prog .add 9 (.string (strOfNums (([27, 91] ++ digF 3 (ro + 1)) ++ [59]))) (.string (strOfNums (digF 3 (co + 1)))) = some (.string (strOfNums ((([27, 91] ++ digF 3 (ro + 1)) ++ [59]) ++ digF 3 (co + 1)))) := strAdd (by simp; omega)
        have sa4 : abin prog .add 9 (.string (strOfNums ((([27, 91] ++ digF 3 (ro + 1)) ++ [59]) ++ digF 3 (co + 1)))) (.string ⟨#[72]⟩) = some (.string (strOfNums (atL (ro + 1) (co + 1)))) := by
          have := strAdd (a := (([27, 91] ++ digF 3 (ro + 1)) ++ [59]) ++ digF 3 (co + 1)) (b := [72]) (by simp; omega)
          have e : ((([27, 91] ++ digF 3 (ro + 1)) ++ [59]) ++ digF 3 (co + 1)) ++ [72] = atL (ro + 1) (co + 1) := by simp [atL]
          rw [e] at this
          exact this
        have hib := atL_isB (a := ro + 1) (b := co + 1) (by omega) (by omega)
        have hal : (atL (ro + 1) (co + 1)).length ≤ 100 := by simp [atL]; omega
        generalize hat : atL (ro + 1) (co + 1) = at_ at *
        obtain ⟨cs1, cs2⟩ := convS (h := h7) hib
        have K57 := K6.trans K7
        have T7 := T5.keeps K57
        have A7 := A5.nar T5.up K57
        have V7 := Keeps.var T5.wf K57 V5
        have f7 := nar_sub (a := hh.size) (b := h7.size) f5 (by have := Ch.le K57; have := V5.lt T5.wf; omega)
        have W7 := off_nar T5.up K57 FW hwlt
        have RW7 := RW.keeps K57
        generalize Nar F5 hh.size h7.size = F7 at *
        have N8 := Keeps.new T7.wf 5 (at_.map (Value.int .u8))
        have RB8 : RdI prog (h7.new 5 (at_.map (Value.int .u8))) .u8 (.slice (some ⟨h7.size, 0, none⟩) at_.length 0) at_ := Rd.new T7.wf asz5 (by simp)
        have B8 := off_new (Fs := F7) (v := .slice (some ⟨h7.size, 0, none⟩) at_.length 0) N8 blk_new
        have T8 := T7.keeps N8
        have A8 := A7.nar T7.up N8
        have V8 := Keeps.var T7.wf N8 V7
        have z8 : h7.size < (h7.new 5 (at_.map (Value.int .u8))).size := Nat.lt_succ_self _
        have f8 := nar_sub (a := h7.size) (b := (h7.new 5 (at_.map (Value.int .u8))).size) f7 (by have := V7.lt T7.wf; omega)
        have hwlt7 : ∀ z, blkOf wv = some z → z < h7.size := fun z hz => (RW7.blk_lt hz).1
        have W8 := off_nar T7.up N8 W7 hwlt7
        have RW8 := RW7.keeps N8
        simp only [wk, wt, wl, ↓reduceIte, Nat.reduceEqDiff, Nat.reduceAdd, Nat.zero_add, not_false_eq_true, not_true_eq_false, sa3, sa4, t1, t2, t3, t9, t10, t11, t12, pt, cs1, cs2]
        generalize Nar F7 h7.size (h7.new 5 (at_.map (Value.int .u8))).size = F8 at *
        generalize h7.new 5 (at_.map (Value.int .u8)) = h8 at *
        refine (T8.write RB8 B8 hib (by omega)).use ?_
        rintro _ h9 ⟨rfl, T9, C9⟩
        have A9 := A8.ch C9 fun n hn => hn
        have V9 := Ch.var T8.wf C9 V8 (V8.apart f8)
        have W9 := W8.ch C9 fun z hz => (RW8.blk_lt hz).1
        have RW9 : RdI prog h9 .i32 wv W := Ch.rd C9 RW8 (W8.apart fun n a b => a b)
        clear C9 RB8 B8 N8
        simp only [wk, wt, wl, ↓reduceIte, Nat.reduceEqDiff, Nat.reduceAdd, Nat.zero_add, not_false_eq_true, not_true_eq_false, t1, t2, t3, t9, t10, t11, t12, pt]
        refine (refEncode_new RW9 (by omega) (fun j => ?_)).use ?_
        · cases hj : W[j]? with
          | none => simp [List.getD, hj, isR]
          | some y => simp [List.getD, hj]; exact (hW y (List.mem_of_getElem? hj)).2
        rintro ev h10 ⟨R10, B10, K10⟩
        have T10 := T9.keeps K10
        have A10 := A9.nar T9.up K10
        have V10 := Keeps.var T9.wf K10 V9
        have f10 := nar_sub (a := h9.size) (b := h10.size) f8 (by have := V10.lt T10.wf; omega)
        have W10 := off_nar T9.up K10 W9 fun z hz => (RW9.blk_lt hz).1
        have RW10 := RW9.keeps K10
        have BB10 := off_new (Fs := F8) (v := ev) K10 B10
        generalize Nar F8 h9.size h10.size = F10 at *
        have hel := encL_len W
        simp only [wk, wt, wl, ↓reduceIte, Nat.reduceEqDiff, Nat.reduceAdd, Nat.zero_add, not_false_eq_true, not_true_eq_false, t1, t2, t3, t9, t10, t11, t12, pt]
        refine (T10.write R10 BB10 encL_isB (by omega)).use ?_
        rintro _ h11 ⟨rfl, T11, C11⟩
        have A11 := A10.ch C11 fun n hn => hn
        have V11 := Ch.var T10.wf C11 V10 (V10.apart f10)
        have RW11 : RdI prog h11 .i32 wv W := Ch.rd C11 RW10 (W10.apart fun n a b => a b)
        obtain ⟨X, base, m, hX, x1, x2, x3, x4, hbase, hcells, htot⟩ := typed_all (r := r) (c := c) (ro := ro) (co := co) (W := W) ⟨by omega, by omega⟩ ⟨by omega, by omega⟩ (fun y hy => (hW y hy).1) hroom
        rw [hat] at hX
        rw [hX] at T11
        clear C11 R10 BB10 K10 B10 T10 T9 T8 T7 T5
        simp only [wk, wt, wl, ↓reduceIte, Nat.reduceEqDiff, Nat.reduceAdd, Nat.zero_add, not_false_eq_true, not_true_eq_false, t1, t2, t3, t9, t10, t11, t12, pt]
        refine T11.grid.use ?_
        rintro _ h12 ⟨cv, rfl, C12, T12, K12⟩
        have A12 := A11.nar T11.up K12
        have V12 := Keeps.var T11.wf K12 V11
        have RW12 := RW11.keeps K12
        generalize Nar F10 h11.size h12.size = F12 at *
        obtain ⟨h13, e13, U13, K13, z13⟩ := putGrid T12.wf (r := X.rows) (c := X.cols) (v := cv) (y := X.row) (x := X.col) C12.one
        have A13 := A12.nar T12.up K13
        have C13 := C12.nar T12.up K13
        have V13 := Keeps.var T12.wf K13 V12
        have RW13 := RW12.keeps K13
        have T13 := T12.keeps K13
        generalize Nar F12 h12.size h13.size = F13 at *
        obtain ⟨gg0, gg1, gg2, _⟩ := loadGrid V13
        obtain ⟨u0, u1, u2, u3, u4, _⟩ := loadGrid U13
        have LA := A13.len
        have LC := C13.len
        have hXl : X.cells.length = (blankL r c).length := by
          rw [hcells]; simp only [List.length_append, List.length_replicate]; unfold wsum at htot; omega
        rw [hXl] at LC
        have dlen : decide (¬ ((blankL r c).length : Int) = ((blankL r c).length : Int)) = false := decide_eq_false fun e => e rfl
        have wmul : IntKind.i64.wrap (ro * sizeC c) = ro * sizeC c := by
          have h2 : ro * sizeC c ≤ 500 * 1000 := Int.mul_le_mul (by omega) (by omega) (by omega) (by omega)
          have h3 := Int.mul_nonneg ro1 (show 0 ≤ sizeC c by omega)
          exact IntWalk.i64_in _ (by omega)
        have wbase : IntKind.i64.wrap (ro * sizeC c + co) = (base : Int) := by rw [← hbase]; exact IntWalk.i64_in _ (by omega)
        simp only [wk, wt, wl, ↓reduceIte, Nat.reduceEqDiff, Nat.reduceAdd, Nat.zero_add, not_false_eq_true, not_true_eq_false, gV, t1, t2, t3, t9, t10, t11, t12, pt, e13, u2, gg2, LA, LC, dlen, gg1, wmul, wbase]
        have eq_at : ∀ {j : Nat}, j < wsum W → X.cells[base + j]? = (layL W)[j]? := fun {j} hj => by
          rw [hcells, List.getElem?_append_right (by simp), List.length_replicate, show base + j - base = j by omega, List.getElem?_append_left (by unfold wsum at hj; exact hj)]
        have bl_at : ∀ {j : Nat}, j < (blankL r c).length → (j < base ∨ base + wsum W ≤ j) → X.cells[j]? = some (bl 0) := fun {j} hj hor => by
          rw [hcells]
          rcases hor with hor | hor
          · rw [List.getElem?_append_left (by simpa using hor), List.getElem?_replicate, if_pos hor]
          · unfold wsum at hor htot
            rw [List.getElem?_append_right (by simp; omega), List.getElem?_append_right (by simp; omega), List.getElem?_replicate, if_pos (by simp; omega)]
        have g_at : ∀ {j : Nat}, j < (blankL r c).length → (blankL r c)[j]? = some (bl 0) := fun {j} hj => by
          obtain ⟨d, hd⟩ : ∃ d, (blankL r c)[j]? = some d := ⟨_, List.getElem?_eq_getElem hj⟩
          rw [hd, blankL_at hd]
        refine W_loop (fun tm hh' => hh' = h13 ∧ tm 1 = .int .i64 ro ∧ tm 2 = .int .i64 co ∧ tm 9 = pt t ∧ tm 10 = pt h3.size ∧ tm 11 = wv ∧ tm 12 = .int .i64 (wsum W : Int) ∧ tm 17 = pt h12.size ∧ tm 19 = .int .i64 (base : Int) ∧ ∃ i : Nat, tm 20 = .int .i64 (i : Int) ∧ i ≤ W.length ∧ tm 18 = .int .i64 ((base + wsum (W.take i) : Nat) : Int))
          (fun tm _ => (W.length - intOf (tm 20)).toNat) ⟨rfl, (by first | rfl | (simp only [wk, wt, wl, ↓reduceIte, Nat.reduceEqDiff, Nat.reduceAdd, Nat.zero_add, not_false_eq_true, not_true_eq_false]; done) | (simp only [wk, wt, wl, ↓reduceIte, Nat.reduceEqDiff, Nat.reduceAdd, Nat.zero_add, not_false_eq_true, not_true_eq_false]; rfl) | (simp only [wk, wt, wl, ↓reduceIte, Nat.reduceEqDiff, Nat.reduceAdd, Nat.zero_add, not_false_eq_true, not_true_eq_false, t1]; done) | (simp only [wk, wt, wl, ↓reduceIte, Nat.reduceEqDiff, Nat.reduceAdd, Nat.zero_add, not_false_eq_true, not_true_eq_false, t1]; rfl)), (by first | rfl | (simp only [wk, wt, wl, ↓reduceIte, Nat.reduceEqDiff, Nat.reduceAdd, Nat.zero_add, not_false_eq_true, not_true_eq_false]; done) | (simp only [wk, wt, wl, ↓reduceIte, Nat.reduceEqDiff, Nat.reduceAdd, Nat.zero_add, not_false_eq_true, not_true_eq_false]; rfl) | (simp only [wk, wt, wl, ↓reduceIte, Nat.reduceEqDiff, Nat.reduceAdd, Nat.zero_add, not_false_eq_true, not_true_eq_false, t2]; done) | (simp only [wk, wt, wl, ↓reduceIte, Nat.reduceEqDiff, Nat.reduceAdd, Nat.zero_add, not_false_eq_true, not_true_eq_false, t2]; rfl)), (by first | rfl | (simp only [wk, wt, wl, ↓reduceIte, Nat.reduceEqDiff, Nat.reduceAdd, Nat.zero_add, not_false_eq_true, not_true_eq_false]; done) | (simp only [wk, wt, wl, ↓reduceIte, Nat.reduceEqDiff, Nat.reduceAdd, Nat.zero_add, not_false_eq_true, not_true_eq_false]; rfl) | (simp only [wk, wt, wl, ↓reduceIte, Nat.reduceEqDiff, Nat.reduceAdd, Nat.zero_add, not_false_eq_true, not_true_eq_false, t9]; done) | (simp only [wk, wt, wl, ↓reduceIte, Nat.reduceEqDiff, Nat.reduceAdd, Nat.zero_add, not_false_eq_true, not_true_eq_false, t9]; rfl)), (by first | rfl | (simp only [wk, wt, wl, ↓reduceIte, Nat.reduceEqDiff, Nat.reduceAdd, Nat.zero_add, not_false_eq_true, not_true_eq_false]; done) | (simp only [wk, wt, wl, ↓reduceIte, Nat.reduceEqDiff, Nat.reduceAdd, Nat.zero_add, not_false_eq_true, not_true_eq_false]; rfl) | (simp only [wk, wt, wl, ↓reduceIte, Nat.reduceEqDiff, Nat.reduceAdd, Nat.zero_add, not_false_eq_true, not_true_eq_false, t10]; done) | (simp only [wk, wt, wl, ↓reduceIte, Nat.reduceEqDiff, Nat.reduceAdd, Nat.zero_add, not_false_eq_true, not_true_eq_false, t10]; rfl)), (by first | rfl | (simp only [wk, wt, wl, ↓reduceIte, Nat.reduceEqDiff, Nat.reduceAdd, Nat.zero_add, not_false_eq_true, not_true_eq_false]; done) | (simp only [wk, wt, wl, ↓reduceIte, Nat.reduceEqDiff, Nat.reduceAdd, Nat.zero_add, not_false_eq_true, not_true_eq_false]; rfl) | (simp only [wk, wt, wl, ↓reduceIte, Nat.reduceEqDiff, Nat.reduceAdd, Nat.zero_add, not_false_eq_true, not_true_eq_false, t11]; done) | (simp only [wk, wt, wl, ↓reduceIte, Nat.reduceEqDiff, Nat.reduceAdd, Nat.zero_add, not_false_eq_true, not_true_eq_false, t11]; rfl)), (by first | rfl | (simp only [wk, wt, wl, ↓reduceIte, Nat.reduceEqDiff, Nat.reduceAdd, Nat.zero_add, not_false_eq_true, not_true_eq_false]; done) | (simp only [wk, wt, wl, ↓reduceIte, Nat.reduceEqDiff, Nat.reduceAdd, Nat.zero_add, not_false_eq_true, not_true_eq_false]; rfl) | (simp only [wk, wt, wl, ↓reduceIte, Nat.reduceEqDiff, Nat.reduceAdd, Nat.zero_add, not_false_eq_true, not_true_eq_false, t12]; done) | (simp only [wk, wt, wl, ↓reduceIte, Nat.reduceEqDiff, Nat.reduceAdd, Nat.zero_add, not_false_eq_true, not_true_eq_false, t12]; rfl)), (by first | rfl | (simp only [wk, wt, wl, ↓reduceIte, Nat.reduceEqDiff, Nat.reduceAdd, Nat.zero_add, not_false_eq_true, not_true_eq_false]; done) | (simp only [wk, wt, wl, ↓reduceIte, Nat.reduceEqDiff, Nat.reduceAdd, Nat.zero_add, not_false_eq_true, not_true_eq_false]; rfl)), (by first | rfl | (simp only [wk, wt, wl, ↓reduceIte, Nat.reduceEqDiff, Nat.reduceAdd, Nat.zero_add, not_false_eq_true, not_true_eq_false]; done) | (simp only [wk, wt, wl, ↓reduceIte, Nat.reduceEqDiff, Nat.reduceAdd, Nat.zero_add, not_false_eq_true, not_true_eq_false]; rfl)), 0, (by first | rfl | (simp only [wk, wt, wl, ↓reduceIte, Nat.reduceEqDiff, Nat.reduceAdd, Nat.zero_add, not_false_eq_true, not_true_eq_false]; done) | (simp only [wk, wt, wl, ↓reduceIte, Nat.reduceEqDiff, Nat.reduceAdd, Nat.zero_add, not_false_eq_true, not_true_eq_false]; rfl)), by omega, (by first | rfl | (simp only [wk, wt, wl, ↓reduceIte, Nat.reduceEqDiff, Nat.reduceAdd, Nat.zero_add, not_false_eq_true, not_true_eq_false]; done) | (simp only [wk, wt, wl, ↓reduceIte, Nat.reduceEqDiff, Nat.reduceAdd, Nat.zero_add, not_false_eq_true, not_true_eq_false]; rfl))⟩ ?_
        clear t1 t2 t9 t10 t11 t12
        rintro tm hh' ⟨eh, t1, t2, t9, t10, t11, t12, t17, t19, i, t20, hiW, t18⟩
        have eh := eh.symm
        subst eh
        simp only [wk, wt, wl, ↓reduceIte, Nat.reduceEqDiff, Nat.reduceAdd, Nat.zero_add, not_false_eq_true, not_true_eq_false, t1, t2, t9, t10, t11, t12, t17, t18, t19, t20, RW13.len underlying44]
        refine condK_dec (fun hd2 => ?_) (fun hd2 => ?_)
        · have hiW1 : i < W.length := by omega
          obtain ⟨y, hy⟩ : ∃ y, W[i]? = some y := ⟨_, List.getElem?_eq_getElem hiW1⟩
          have hyd : W.getD i 0 = y := by simp [List.getD, hy]
          have hyw := (hW y (List.mem_of_getElem? hy)).1.2
          have hstep := wsum_step hy hyw
          have hle1 := wsum_le (W := W) (i + 1)
          have hwl := widthZ_le y
          have IXw := RW13.index underlying44 asz21 (q := .i64) (i := (i : Int)) (by omega) (by omega)
          have LXw := RW13.at (i := i) (t := 21) underlying21 rfl hiW1
          simp only [Int.toNat_natCast] at IXw
          rw [hyd] at LXw
          have hcell := (eq_at (j := wsum (W.take i)) (by omega)).trans (lay_at hy)
          obtain ⟨tv, RV, _, ld0, _, ldw, IXc, ldv⟩ := C13.at hcell
          have LV := RV.len underlying44
          have IV := RV.index underlying44 asz21 (q := .i64) (i := (0 : Int)) (by omega) (by simp)
          have LV0 := RV.at (i := 0) (t := 21) underlying21 rfl (by simp)
          have hv0 : ([y] : List Int).getD 0 0 = y := rfl
          rw [hv0] at LV0
          simp only [show (0 : Int).toNat = 0 from rfl] at IV
          have d1 : decide (¬ (([y].length : Nat) : Int) = 1) = false := decide_eq_false (by simp)
          have d2 : decide (¬ y = y) = false := decide_eq_false fun e => e rfl
          have bn : ∀ q : Bool, abin prog .neq 4 (.bool q) (.bool q) = some (.bool false) := fun q => by cases q <;> simp [abin, aeq, underlying4]
          have wc : IntKind.i64.wrap (((base + wsum (W.take i) : Nat) : Int) + widthZ y) = ((base + wsum (W.take (i + 1)) : Nat) : Int) := by rw [IntWalk.i64_in _ (by omega)]; omega
          have wi : IntKind.i64.wrap ((i : Int) + 1) = ((i + 1 : Nat) : Int) := by rw [IntWalk.i64_in _ (by omega)]; omega
          simp only [wk, wt, wl, ↓reduceIte, Nat.reduceEqDiff, Nat.reduceAdd, Nat.zero_add, not_false_eq_true, not_true_eq_false, t1, t2, t9, t10, t11, t12, t17, t18, t19, t20, IXw, LXw]
          refine refWidth_ok.use_pure ?_
          simp only [wk, wt, wl, ↓reduceIte, Nat.reduceEqDiff, Nat.reduceAdd, Nat.zero_add, not_false_eq_true, not_true_eq_false, t1, t2, t9, t10, t11, t12, t17, t18, t19, t20]
          refine adraw_order [(0, false), (1, false), (2, false), (3, false), (4, false), (5, false), (6, false), (7, false), (8, false), (9, false), (10, false), (11, false), (12, false), (13, false), (14, false), (15, false), (16, false), (17, false), (18, false), (19, false), (20, false), (21, false), (22, false), (23, false), (24, false), (25, false), (26, false), (27, false), (28, false), (29, false), (30, false), (31, false), (32, false), (33, false)] mixed (by kernel_rfl) (by kernel_rfl) (by kernel_rfl) (by with_reducible repeat (first | exact PF_retK | refine PF_thenK ?_ | refine PF_blockK ?_)) ?_
          simp only [wk, wt, wl, ↓reduceIte, Nat.reduceEqDiff, Nat.reduceAdd, Nat.zero_add, not_false_eq_true, not_true_eq_false, dK_t, t1, t2, t9, t10, t11, t12, t17, t18, t19, t20, pt, u2, IXc, ld0, ldv, LV, d1, IV, LV0, IXw, LXw, d2, ldw, bn, wc, wi, intOf_int]
          exact ⟨⟨i + 1, rfl, by omega, rfl⟩, by omega⟩
        · obtain rfl : i = W.length := by omega
          rw [List.take_length] at t18
          simp only [wk, wt, wl, ↓reduceIte, Nat.reduceEqDiff, Nat.reduceAdd, Nat.zero_add, not_false_eq_true, not_true_eq_false, t1, t2, t9, t10, t11, t12, t17, t18, t19]
          refine W_loop (fun tm hh' => Keeps h13 hh' ∧ tm 1 = .int .i64 ro ∧ tm 2 = .int .i64 co ∧ tm 10 = pt h3.size ∧ tm 12 = .int .i64 (wsum W : Int) ∧ tm 17 = pt h12.size ∧ tm 19 = .int .i64 (base : Int) ∧ tm 18 = .int .i64 ((base + wsum W : Nat) : Int) ∧ ∃ i : Nat, tm 22 = .int .i64 (i : Int) ∧ i ≤ (blankL r c).length)
            (fun tm _ => ((blankL r c).length - intOf (tm 22)).toNat) ⟨Keeps.refl T13.wf, (by first | rfl | (simp only [wk, wt, wl, ↓reduceIte, Nat.reduceEqDiff, Nat.reduceAdd, Nat.zero_add, not_false_eq_true, not_true_eq_false]; done) | (simp only [wk, wt, wl, ↓reduceIte, Nat.reduceEqDiff, Nat.reduceAdd, Nat.zero_add, not_false_eq_true, not_true_eq_false]; rfl) | (simp only [wk, wt, wl, ↓reduceIte, Nat.reduceEqDiff, Nat.reduceAdd, Nat.zero_add, not_false_eq_true, not_true_eq_false, t1]; done) | (simp only [wk, wt, wl, ↓reduceIte, Nat.reduceEqDiff, Nat.reduceAdd, Nat.zero_add, not_false_eq_true, not_true_eq_false, t1]; rfl)), (by first | rfl | (simp only [wk, wt, wl, ↓reduceIte, Nat.reduceEqDiff, Nat.reduceAdd, Nat.zero_add, not_false_eq_true, not_true_eq_false]; done) | (simp only [wk, wt, wl, ↓reduceIte, Nat.reduceEqDiff, Nat.reduceAdd, Nat.zero_add, not_false_eq_true, not_true_eq_false]; rfl) | (simp only [wk, wt, wl, ↓reduceIte, Nat.reduceEqDiff, Nat.reduceAdd, Nat.zero_add, not_false_eq_true, not_true_eq_false, t2]; done) | (simp only [wk, wt, wl, ↓reduceIte, Nat.reduceEqDiff, Nat.reduceAdd, Nat.zero_add, not_false_eq_true, not_true_eq_false, t2]; rfl)), (by first | rfl | (simp only [wk, wt, wl, ↓reduceIte, Nat.reduceEqDiff, Nat.reduceAdd, Nat.zero_add, not_false_eq_true, not_true_eq_false]; done) | (simp only [wk, wt, wl, ↓reduceIte, Nat.reduceEqDiff, Nat.reduceAdd, Nat.zero_add, not_false_eq_true, not_true_eq_false]; rfl) | (simp only [wk, wt, wl, ↓reduceIte, Nat.reduceEqDiff, Nat.reduceAdd, Nat.zero_add, not_false_eq_true, not_true_eq_false, t10]; done) | (simp only [wk, wt, wl, ↓reduceIte, Nat.reduceEqDiff, Nat.reduceAdd, Nat.zero_add, not_false_eq_true, not_true_eq_false, t10]; rfl)), (by first | rfl | (simp only [wk, wt, wl, ↓reduceIte, Nat.reduceEqDiff, Nat.reduceAdd, Nat.zero_add, not_false_eq_true, not_true_eq_false]; done) | (simp only [wk, wt, wl, ↓reduceIte, Nat.reduceEqDiff, Nat.reduceAdd, Nat.zero_add, not_false_eq_true, not_true_eq_false]; rfl) | (simp only [wk, wt, wl, ↓reduceIte, Nat.reduceEqDiff, Nat.reduceAdd, Nat.zero_add, not_false_eq_true, not_true_eq_false, t12]; done) | (simp only [wk, wt, wl, ↓reduceIte, Nat.reduceEqDiff, Nat.reduceAdd, Nat.zero_add, not_false_eq_true, not_true_eq_false, t12]; rfl)), (by first | rfl | (simp only [wk, wt, wl, ↓reduceIte, Nat.reduceEqDiff, Nat.reduceAdd, Nat.zero_add, not_false_eq_true, not_true_eq_false]; done) | (simp only [wk, wt, wl, ↓reduceIte, Nat.reduceEqDiff, Nat.reduceAdd, Nat.zero_add, not_false_eq_true, not_true_eq_false]; rfl) | (simp only [wk, wt, wl, ↓reduceIte, Nat.reduceEqDiff, Nat.reduceAdd, Nat.zero_add, not_false_eq_true, not_true_eq_false, t17]; done) | (simp only [wk, wt, wl, ↓reduceIte, Nat.reduceEqDiff, Nat.reduceAdd, Nat.zero_add, not_false_eq_true, not_true_eq_false, t17]; rfl)), (by first | rfl | (simp only [wk, wt, wl, ↓reduceIte, Nat.reduceEqDiff, Nat.reduceAdd, Nat.zero_add, not_false_eq_true, not_true_eq_false]; done) | (simp only [wk, wt, wl, ↓reduceIte, Nat.reduceEqDiff, Nat.reduceAdd, Nat.zero_add, not_false_eq_true, not_true_eq_false]; rfl) | (simp only [wk, wt, wl, ↓reduceIte, Nat.reduceEqDiff, Nat.reduceAdd, Nat.zero_add, not_false_eq_true, not_true_eq_false, t19]; done) | (simp only [wk, wt, wl, ↓reduceIte, Nat.reduceEqDiff, Nat.reduceAdd, Nat.zero_add, not_false_eq_true, not_true_eq_false, t19]; rfl)), (by first | rfl | (simp only [wk, wt, wl, ↓reduceIte, Nat.reduceEqDiff, Nat.reduceAdd, Nat.zero_add, not_false_eq_true, not_true_eq_false]; done) | (simp only [wk, wt, wl, ↓reduceIte, Nat.reduceEqDiff, Nat.reduceAdd, Nat.zero_add, not_false_eq_true, not_true_eq_false]; rfl) | (simp only [wk, wt, wl, ↓reduceIte, Nat.reduceEqDiff, Nat.reduceAdd, Nat.zero_add, not_false_eq_true, not_true_eq_false, t18]; done) | (simp only [wk, wt, wl, ↓reduceIte, Nat.reduceEqDiff, Nat.reduceAdd, Nat.zero_add, not_false_eq_true, not_true_eq_false, t18]; rfl)), 0, (by first | rfl | (simp only [wk, wt, wl, ↓reduceIte, Nat.reduceEqDiff, Nat.reduceAdd, Nat.zero_add, not_false_eq_true, not_true_eq_false]; done) | (simp only [wk, wt, wl, ↓reduceIte, Nat.reduceEqDiff, Nat.reduceAdd, Nat.zero_add, not_false_eq_true, not_true_eq_false]; rfl)), by omega⟩ ?_
          clear t1 t2 t9 t10 t11 t12 t17 t18 t19 t20
          rintro tm hz ⟨KZ, t1, t2, t10, t12, t17, t19, t18, i, t22, hiB⟩
          obtain ⟨gz0, gz1, gz2, _⟩ := loadGrid (Keeps.var T13.wf KZ V13)
          obtain ⟨uz0, uz1, uz2, uz3, uz4, _⟩ := loadGrid (Keeps.var T13.wf KZ U13)
          have LCZ := (C13.keeps KZ).len
          rw [hXl] at LCZ
          simp only [wk, wt, wl, ↓reduceIte, Nat.reduceEqDiff, Nat.reduceAdd, Nat.zero_add, not_false_eq_true, not_true_eq_false, t1, t2, t10, t12, t17, t18, t19, t22, pt, uz2, LCZ]
          refine condK_dec (fun hd3 => ?_) (fun hd3 => ?_)
          · have hi1 : i < (blankL r c).length := by omega
            have wi : IntKind.i64.wrap ((i : Int) + 1) = ((i + 1 : Nat) : Int) := by rw [IntWalk.i64_in _ (by omega)]; omega
            simp only [wk, wt, wl, ↓reduceIte, Nat.reduceEqDiff, Nat.reduceAdd, Nat.zero_add, not_false_eq_true, not_true_eq_false, t1, t2, t10, t12, t17, t18, t19, t22]
            refine adraw_order [(0, false), (1, false), (2, false), (3, false), (4, false), (5, false), (6, false), (7, false), (8, false), (9, false), (10, false), (11, false), (12, false), (13, false), (14, false), (15, false), (16, false), (17, false), (18, false), (19, false), (20, false), (21, false)] mixed (by kernel_rfl) (by kernel_rfl) (by kernel_rfl) (by with_reducible repeat (first | exact PF_retK | refine PF_thenK ?_ | refine PF_blockK ?_)) ?_
            by_cases hin : i < base ∨ base + wsum W ≤ i
            · obtain ⟨ta, RA, la, _, _, _, IA, _⟩ := (C13.keeps KZ).at (bl_at hi1 hin)
              obtain ⟨tb, RB, lb, _, _, _, IB, _⟩ := (A13.keeps KZ).at (g_at hi1)
              have CO := cell_ok (c := bl 0) RA RB (by decide)
              have nb : (!true) = false := rfl
              by_cases hb1 : i < base
              · have d1 : decide ((i : Int) < (base : Int)) = true := decide_eq_true (by omega)
                simp only [wk, wt, wl, ↓reduceIte, Nat.reduceEqDiff, Nat.reduceAdd, Nat.zero_add, not_false_eq_true, not_true_eq_false, dK_t, t1, t2, t10, t12, t17, t18, t19, t22, pt, d1, uz2, gz2, IA, IB, la, lb]
                refine CO.use ?_
                rintro _ h14 ⟨rfl, K14⟩
                try refine ⟨fun _ => K14.reads (Ch.wf KZ), ?_⟩
                simp only [wk, wt, wl, ↓reduceIte, Nat.reduceEqDiff, Nat.reduceAdd, Nat.zero_add, not_false_eq_true, not_true_eq_false, dK_t, t1, t2, t10, t12, t17, t18, t19, t22, pt, nb, wi, intOf_int]
                exact ⟨⟨KZ.trans K14, i + 1, rfl, by omega⟩, by omega⟩
              · have d1 : decide ((i : Int) < (base : Int)) = false := decide_eq_false (by omega)
                have d2 : decide (((base + wsum W : Nat) : Int) ≤ (i : Int)) = true := decide_eq_true (by omega)
                simp only [wk, wt, wl, ↓reduceIte, Nat.reduceEqDiff, Nat.reduceAdd, Nat.zero_add, not_false_eq_true, not_true_eq_false, dK_t, t1, t2, t10, t12, t17, t18, t19, t22, pt, d1, d2, uz2, gz2, IA, IB, la, lb]
                refine CO.use ?_
                rintro _ h14 ⟨rfl, K14⟩
                try refine ⟨fun _ => K14.reads (Ch.wf KZ), ?_⟩
                simp only [wk, wt, wl, ↓reduceIte, Nat.reduceEqDiff, Nat.reduceAdd, Nat.zero_add, not_false_eq_true, not_true_eq_false, dK_t, t1, t2, t10, t12, t17, t18, t19, t22, pt, nb, wi, intOf_int]
                exact ⟨⟨KZ.trans K14, i + 1, rfl, by omega⟩, by omega⟩
            · have d1 : decide ((i : Int) < (base : Int)) = false := decide_eq_false (by omega)
              have d2 : decide (((base + wsum W : Nat) : Int) ≤ (i : Int)) = false := decide_eq_false (by omega)
              simp only [wk, wt, wl, ↓reduceIte, Nat.reduceEqDiff, Nat.reduceAdd, Nat.zero_add, not_false_eq_true, not_true_eq_false, dK_t, t1, t2, t10, t12, t17, t18, t19, t22, pt, d1, d2, wi, intOf_int]
              exact ⟨⟨KZ, i + 1, rfl, by omega⟩, by omega⟩
          · have TZ := T13.keeps KZ
            have d1 : decide (ro = ro) = true := decide_eq_true rfl
            have w3 : IntKind.i64.wrap (co + (wsum W : Int)) = co + (wsum W : Int) := IntWalk.i64_in _ (by omega)
            have w4 : IntKind.i64.wrap (sizeC c - 1) = sizeC c - 1 := IntWalk.i64_in _ (by omega)
            have d2 : decide (imin (co + (wsum W : Int)) (sizeC c - 1) = imin (co + (wsum W : Int)) (sizeC c - 1)) = true := decide_eq_true rfl
            rw [x3] at uz3
            rw [x4] at uz4
            simp only [wk, wt, wl, ↓reduceIte, Nat.reduceEqDiff, Nat.reduceAdd, Nat.zero_add, not_false_eq_true, not_true_eq_false, t1, t2, t10, t12, t17, t18, t19, t22, pt, uz3, uz4, gz1, d1, w3, w4, mnV, d2]
            refine (awake_ok TZ.env.at).use ?_
            rintro _ h15 ⟨rfl, K15⟩
            simp only [wk, wt, wl, ↓reduceIte, Nat.reduceEqDiff, Nat.reduceAdd, Nat.zero_add, not_false_eq_true, not_true_eq_false]
            exact N1.trans (TZ.env.k.trans K15)
end Go.Proofs.YtefpalmihdbmiaaDoor.Am
end
