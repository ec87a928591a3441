/- The texts of this seat, one behind another (part 8 of 10): the frame (an abstract machine), the contracts of functions, the laws. -/
import Derived.Test.YtefpalmihdbmiaaDoorZ6
import Derived.Test.YtefpalmihdbmiaaDoorAmDraw3
section
/- The program's terminal: the contract of put at runes without width, by a walk. -/
set_option linter.unusedSimpArgs false
set_option linter.unusedVariables false
set_option maxHeartbeats 4000000
set_option maxRecDepth 20000
namespace Go.Proofs.YtefpalmihdbmiaaDoor.Am
open Go Go.RowKit Go.Proofs.Tryd
theorem put_zero {h : Heap} {Fs : Nat → Prop} {gs : List (Value × List Int)} {t : Nat} {nv : Value} {gr : Bool} {X : TX} {r : Int} (P : PM h Fs gs t nv gr X) (I : Inv X) (G : Gl h) (hr : isR r) (hs : showL r = [r]) (hw : widthZ r = 0) :
    ACalls prog 48 #[pt t, .int .i32 r] h (fun y h' => y = .tuple #[] ∧ PM h' Fs gs t nv gr (putX X r) ∧ Ch (Rg Fs h) h h') := by
  refine acalls_of_W' func48 rfl (by kernel_rfl) (by kernel_rfl) (by simp [ntmps48]) ?_
  intro H
  obtain ⟨f, cv, sv, rv, ps, Ms, Q⟩ := P
  simp only [wk, wt, wl, ↓reduceIte, Nat.reduceEqDiff, Nat.reduceAdd, Nat.zero_add, not_false_eq_true, not_true_eq_false]
  refine (show_ok hr).use_pure ?_
  rw [hs]
  have N1 := Keeps.new H 21 ([r].map (Value.int .i32))
  have R1 : RdI prog (h.new 21 ([r].map (Value.int .i32))) .i32 (.slice (some ⟨h.size, 0, none⟩) [r].length ([r].length + 1)) [r] := rdI_new H
  have Q1 := Q.keeps H N1
  have G1 := G.keeps N1
  have LL := R1.len underlying44
  have IX := R1.index underlying44 asz21 (q := .i64) (i := (0 : Int)) (by omega) (by simp)
  have LX := R1.at (i := 0) (t := 21) underlying21 rfl (by simp)
  have hx0 : [r].getD 0 0 = r := rfl
  rw [hx0] at LX
  simp only [show (0 : Int).toNat = 0 from rfl] at IX
  have d1 : decide (¬ (([r].length : Nat) : Int) = 1) = false := decide_eq_false (by simp)
  have d2 : decide (¬ r = r) = false := decide_eq_false (by simp)
  generalize h.new 21 ([r].map (Value.int .i32)) = h1 at *
  simp only [wk, wt, wl, ↓reduceIte, Nat.reduceEqDiff, Nat.reduceAdd, Nat.zero_add, not_false_eq_true, not_true_eq_false, LL, d1, IX, LX, d2]
  refine (width_ok hr G1).use_pure ?_
  obtain ⟨l0, l1, l2, l3, l4, l5, l6, l7, l8, l9, l10, l11⟩ := Q1.load
  have d3 : decide (widthZ r = 0) = true := decide_eq_true hw
  have PN := fun {a : Addr} => ptr_ne (a := a) underlying58
  have P0 := ptr_ne0 underlying58
  cases hl : X.last with
  | none =>
    have hp : putX X r = X := by unfold putX; rw [if_neg (fun e => e hs), if_pos hw, hl]
    rw [hp]
    rw [hl] at l7
    simp only [lastV] at l7
    simp only [wk, wt, wl, ↓reduceIte, Nat.reduceEqDiff, Nat.reduceAdd, Nat.zero_add, not_false_eq_true, not_true_eq_false, d3, pt, l7, P0]
    exact ⟨⟨_, _, _, _, _, _, Q1⟩, N1.rg⟩
  | some i =>
    have hi : i < X.cells.length := by
      obtain ⟨c0, hc0, _⟩ := I.last i hl
      exact (List.getElem?_eq_some_iff.1 hc0).1
    obtain ⟨p, p1, p2, p3⟩ := Q1.gp.at hi
    obtain ⟨a1, a2, a3, a4, a5⟩ := Q1.gp.loads p1
    have RT := Q1.gp.rd p p3
    have LT := RT.len underlying44
    rw [hl] at l7
    simp only [lastV] at l7
    by_cases h3 : p.2.tx.length ≤ 2
    · have d4 : decide ((p.2.tx.length : Int) ≤ 2) = true := decide_eq_true (by omega)
      have hp : putX X r = { X with cells := X.cells.set i { p.2 with tx := p.2.tx ++ [r] } } := by unfold putX; rw [if_neg (fun e => e hs), if_pos hw, hl]; simp only [getD_at p2]; rw [if_pos h3]
      rw [hp]
      simp only [wk, wt, wl, ↓reduceIte, Nat.reduceEqDiff, Nat.reduceAdd, Nat.zero_add, not_false_eq_true, not_true_eq_false, d3, pt, l7, PN, a1, a5, LT, d4]
      refine adraw_two [(0, false), (1, false), (2, false), (3, false), (4, false), (5, false), (6, false), (7, false), (8, false), (9, false), (10, false), (12, false)] 11 13 [(13, true), (14, true), (15, false), (16, false), (17, false)] [(11, true), (14, true), (15, false), (16, false), (17, false)] mixed (by kernel_rfl) rfl rfl rfl (by kernel_rfl) (by kernel_rfl) (by with_reducible repeat (first | exact PF_retK | refine PF_thenK ?_ | refine PF_blockK ?_)) ?_
      simp only [wk, wt, wl, ↓reduceIte, Nat.reduceEqDiff, Nat.reduceAdd, Nat.zero_add, not_false_eq_true, not_true_eq_false, DRp_nil, DRp_cons', drpK_some, dK_t, call_clip, pt, l7, a1, a5]
      have hlt := Q1.gp.lt
      have hbl : ∀ z, blkOf p.1 = some z → z < h1.size := fun z hz => (RT.blk_lt hz).1
      have H1 := Ch.wf N1
      obtain ⟨O2, hby⟩ := clip_own RT
      have NX := Keeps.new H1 21 [.int .i32 r]
      have RX : Rd prog (h1.new 21 [.int .i32 r]) 1 (.slice (some ⟨h1.size, 0, none⟩) 1 2) 1 [.int .i32 r] := Rd.new H1 asz21 rfl
      obtain ⟨fz, fb, fs⟩ := fits21
      obtain ⟨h2, ea, O3, z3, RdX, C3, _⟩ := (O2.keeps NX).append (P := prog) (Ch.wf NX) (Ch.le NX) underlying44 underlying44 rfl elem21 fz (by rw [fb]; decide) fs RX.news (by decide) rfl (by rw [fb]; omega)
      obtain ⟨v', ev⟩ : ∃ v', Value.slice (some ⟨(h1.new 21 [.int .i32 r]).size, 0, none⟩) (p.2.tx.length + 1) 0 = v' := ⟨_, rfl⟩
      rw [ev] at ea O3
      have K3 : Keeps h1 h2 := NX.trans (C3.mono fun z hz => by have := hbl z (by rw [← hby]; exact hz.1); have := hz.2; omega)
      have hnew : ∀ z, blkOf v' = some z → h1.size ≤ z := fun z hz => by rw [← ev] at hz; exact Nat.le_of_succ_le (blk_new z hz)
      have R3 : RdI prog h2 .i32 v' (p.2.tx ++ [r]) := by have := O3.1; simpa [RdI] using this
      have Q2 := Q1.keeps H1 K3
      obtain ⟨h3, es, G3, C4, z4⟩ := Q2.gp.fld (t := 44) (v := v') (q := (v', { p.2 with tx := p.2.tx ++ [r] })) (Ch.wf K3) Q2.mc p1 (by decide : 0 < 3) asz44 R3.one rfl R3 (Q1.fresh K3 hnew)
      have es' := es
      rw [eltA_eta] at es
      have Q4 := Q2.cells (Ch.wf K3) C4 G3
      have D4 := (N1.rg.thenR K3.rg).thenR (Q2.dirtyC C4)
      have F4 : PM h3 Fs gs t nv gr { X with cells := X.cells.set i { p.2 with tx := p.2.tx ++ [r] } } ∧ Ch (Rg Fs h) h h3 := ⟨⟨_, _, _, _, _, _, Q4⟩, D4⟩
      refine ⟨?_, NX.reads H1, ?_⟩
      · refine (clipR_ok RT).use_pure ?_
        simp only [wk, wt, wl, ↓reduceIte, Nat.reduceEqDiff, Nat.reduceAdd, Nat.zero_add, not_false_eq_true, not_true_eq_false, dK_t, pt, ea, es, es']
        exact ⟨Reads.refl _, NX.reads H1, RdX, F4⟩
      · refine (clipR_ok (RT.keeps NX)).use_pure ?_
        simp only [wk, wt, wl, ↓reduceIte, Nat.reduceEqDiff, Nat.reduceAdd, Nat.zero_add, not_false_eq_true, not_true_eq_false, dK_t, pt, ea, es, es']
        exact ⟨Reads.refl _, RdX, F4⟩
    · have d4 : decide ((p.2.tx.length : Int) ≤ 2) = false := decide_eq_false (by omega)
      have hp : putX X r = X := by unfold putX; rw [if_neg (fun e => e hs), if_pos hw, hl]; simp only [getD_at p2]; rw [if_neg h3]
      rw [hp]
      simp only [wk, wt, wl, ↓reduceIte, Nat.reduceEqDiff, Nat.reduceAdd, Nat.zero_add, not_false_eq_true, not_true_eq_false, d3, pt, l7, PN, a1, a5, LT, d4]
      exact ⟨⟨_, _, _, _, _, _, Q1⟩, N1.rg⟩
end Go.Proofs.YtefpalmihdbmiaaDoor.Am
end
section
/- The program's terminal: the contract of put at runes with width, by a walk. -/
set_option linter.unusedSimpArgs false
set_option linter.unusedVariables false
set_option maxHeartbeats 4000000
set_option maxRecDepth 20000
namespace Go.Proofs.YtefpalmihdbmiaaDoor.Am
open Go Go.RowKit Go.Proofs.Tryd
theorem rdI_one {h : Heap} (H : Wf h) {r : Int} : RdI prog (h.new 21 [.int .i32 r]) .i32 (.slice (some ⟨h.size, 0, none⟩) 1 2) [r] := rdI_new H (xs := [r])
theorem build_cellA {a : Int} : abuild prog 50 #[(1, .int .i64 a)] = some (.agg #[.slice none 0 0, .int .i64 a, .bool false]) := by
  simp [abuild, wt, aplaces, Instr.fill, Value.cells]
theorem wipeL_len {l : List Cel} {f t : Nat} : (wipeL l f t).length = l.length := by
  unfold wipeL
  split
  · exact setB_len
  · rfl
theorem clampZ_in {x n : Int} (h0 : 0 ≤ x) (h1 : x < n) : clampZ x n = x := by
  have M1 := imax_spec x 0
  have M2 := imin_spec (imax x 0) (n - 1)
  unfold clampZ
  omega
theorem put_wide {h : Heap} {Fs : Nat → Prop} {gs : List (Value × List Int)} {t : Nat} {nv : Value} {gr : Bool} {X : TX} {r : Int} (P : PM h Fs gs t nv gr X) (I : Inv X) (G : Gl h) (hr : isR r) (hs : showL r = [r]) (hw : widthZ r ≠ 0) :
    ACalls prog 48 #[pt t, .int .i32 r] h (fun y h' => y = .tuple #[] ∧ PM h' Fs gs t nv gr (putX X r) ∧ Ch (Rg Fs h) h h') := by
  have hp : putX X r = putAt X r (widthZ r) := by unfold putX; rw [if_neg (fun e => e hs), if_neg hw]
  rw [hp]
  refine acalls_of_W' func48 rfl (by kernel_rfl) (by kernel_rfl) (by simp [ntmps48]) ?_
  intro H
  obtain ⟨f, cv, sv, rv, ps, Ms, Q⟩ := P
  simp only [wk, wt, wl, ↓reduceIte, Nat.reduceEqDiff, Nat.reduceAdd, Nat.zero_add, not_false_eq_true, not_true_eq_false]
  refine (show_ok hr).use_pure ?_
  rw [hs]
  have N1 := Keeps.new H 21 ([r].map (Value.int .i32))
  have R1 : RdI prog (h.new 21 ([r].map (Value.int .i32))) .i32 (.slice (some ⟨h.size, 0, none⟩) [r].length ([r].length + 1)) [r] := rdI_new H
  have Q1 := Q.keeps H N1
  have G1 := G.keeps N1
  have LL := R1.len underlying44
  have IX := R1.index underlying44 asz21 (q := .i64) (i := (0 : Int)) (by omega) (by simp)
  have LX := R1.at (i := 0) (t := 21) underlying21 rfl (by simp)
  have hx0 : [r].getD 0 0 = r := rfl
  rw [hx0] at LX
  simp only [show (0 : Int).toNat = 0 from rfl] at IX
  have d1 : decide (¬ (([r].length : Nat) : Int) = 1) = false := decide_eq_false (by simp)
  have d2 : decide (¬ r = r) = false := decide_eq_false (by simp)
  generalize h.new 21 ([r].map (Value.int .i32)) = h1 at *
  simp only [wk, wt, wl, ↓reduceIte, Nat.reduceEqDiff, Nat.reduceAdd, Nat.zero_add, not_false_eq_true, not_true_eq_false, LL, d1, IX, LX, d2]
  refine (width_ok hr G1).use_pure ?_
  have hw2 := widthZ_le r
  obtain ⟨w, ew⟩ : ∃ w : Nat, widthZ r = (w : Int) := ⟨(widthZ r).toNat, by omega⟩
  rw [ew] at hw hw2 ⊢
  obtain ⟨l0, l1, l2, l3, l4, l5, l6, l7, l8, l9, l10, l11⟩ := Q1.load
  obtain ⟨A, hA, hAl, hlen, _⟩ := I.rowA
  have hc := I.c
  have hcol := I.col
  have M1 := imin_spec X.col (X.cols - (w : Int))
  obtain ⟨k, hk⟩ : ∃ k : Nat, imin X.col (X.cols - (w : Int)) = (k : Int) := ⟨(imin X.col (X.cols - (w : Int))).toNat, by omega⟩
  have d3 : decide ((w : Int) = 0) = false := decide_eq_false hw
  have w0 : IntKind.i64.wrap (X.cols - (w : Int)) = X.cols - (w : Int) := IntWalk.i64_in _ (by omega)
  obtain ⟨h2, e2, V2, C2, z2⟩ := Q1.var.store1 (P := prog) (t := 3) (v := .int .i64 (k : Int)) (i := 4) (Ch.wf N1) asz3 (by simp [tF]) rfl
  have Q2 : PT h2 Fs gs t nv gr { X with col := (k : Int) } f cv sv rv ps Ms := Q1.own (Ch.wf N1) C2 V2 rfl rfl rfl
  have D2 := (N1.rg (Fs := Fs)).thenR (Q1.dirtyT C2)
  obtain ⟨m0, m1, m2, m3, m4, m5, m6, m7, m8, m9, m10, m11⟩ := Q2.load
  simp only at m0 m1 m2 m3 m4 m5
  have wm : IntKind.i64.wrap (X.row * X.cols) = (A : Int) := by rw [hA]; exact IntWalk.i64_in _ (by omega)
  have wa : IntKind.i64.wrap ((A : Int) + (k : Int)) = ((A + k : Nat) : Int) := by rw [IntWalk.i64_in _ (by omega)]; omega
  have wb : IntKind.i64.wrap (((A + k : Nat) : Int) + (w : Int)) = ((A + k + w : Nat) : Int) := by rw [IntWalk.i64_in _ (by omega)]; omega
  simp only [wk, wt, wl, ↓reduceIte, Nat.reduceEqDiff, Nat.reduceAdd, Nat.zero_add, not_false_eq_true, not_true_eq_false, d3]
  refine adraw_order [(0, false), (1, false), (2, false), (3, false), (4, false), (5, false), (6, false), (7, false), (8, false), (9, false), (10, false), (11, false), (12, false), (13, false), (14, false), (15, false), (16, false), (17, false)] mixed (by kernel_rfl) (by kernel_rfl) (by kernel_rfl) (by with_reducible repeat (first | exact PF_retK | refine PF_thenK ?_ | refine PF_blockK ?_)) ?_
  simp only [wk, wt, wl, ↓reduceIte, Nat.reduceEqDiff, Nat.reduceAdd, Nat.zero_add, not_false_eq_true, not_true_eq_false, pt, l1, l4, w0, mnV, hk, e2]
  refine adraw_order [(0, false), (1, false), (2, false), (3, false), (4, false), (5, false), (6, false), (7, false), (8, false), (9, false), (10, false), (11, false), (12, false), (13, false), (14, false), (15, false), (16, false), (17, false)] mixed (by kernel_rfl) (by kernel_rfl) (by kernel_rfl) (by with_reducible repeat (first | exact PF_retK | refine PF_thenK ?_ | refine PF_blockK ?_)) ?_
  simp only [wk, wt, wl, ↓reduceIte, Nat.reduceEqDiff, Nat.reduceAdd, Nat.zero_add, not_false_eq_true, not_true_eq_false, pt, m1, m3, m4, wm, wa, wb]
  refine (wipe_ok (F := A + k) (T := A + k + w) (⟨_, _, _, _, _, _, Q2⟩ : PM h2 Fs gs t nv gr { X with col := (k : Int) }) (by show A + k + w ≤ X.cells.length; omega) hlen (fun hlt he => ?_) (fun hlt he => ?_)).use ?_
  · have hi : A + k < X.cells.length := by omega
    have hx : X.cells[A + k]? = some X.cells[A + k] := List.getElem?_eq_getElem hi
    change (X.cells.getD (A + k) (bl 0)).tx = [] at he
    rw [getD_at hx] at he
    obtain ⟨j, d, h1, _⟩ := I.emp _ _ hx he
    omega
  · have hi : A + k + w - 1 < X.cells.length := by omega
    have hx : X.cells[A + k + w - 1]? = some X.cells[A + k + w - 1] := List.getElem?_eq_getElem hi
    change (X.cells.getD (A + k + w - 1) (bl 0)).wd = true at he
    rw [getD_at hx] at he
    obtain ⟨d, h1, _⟩ := I.wid _ _ hx he
    have := (List.getElem?_eq_some_iff.1 h1).1
    show A + k + w < X.cells.length
    omega
  rintro _ h3 ⟨rfl, ⟨f3, cv3, sv3, rv3, ps3, Ms3, Q3⟩, C3⟩
  have D3 := D2.thenR C3
  obtain ⟨L, hL⟩ : ∃ L, wipeL X.cells (A + k) (A + k + w) = L := ⟨_, rfl⟩
  have hLl : L.length = X.cells.length := by rw [← hL]; exact wipeL_len
  simp only [hL] at Q3
  obtain ⟨m0, m1, m2, m3, m4, m5, m6, m7, m8, m9, m10, m11⟩ := Q3.load
  simp only at m0 m1 m2 m3 m4 m5
  have IX := Q3.gp.index (z := ((A + k : Nat) : Int)) (by omega) (by show ((A + k : Nat) : Int) < (L.length : Int); omega)
  simp only [Int.toNat_natCast] at IX
  obtain ⟨h4, e4, V4, C4, z4⟩ := Q3.var.store1 (P := prog) (t := 58) (v := .pointer (some (eltA cv3 3 (A + k)))) (i := 7) (Ch.wf C3) asz58 (by simp [tF]) rfl
  have Q4 : PT h4 Fs gs t nv gr { X with col := (k : Int), cells := L, last := some (A + k) } f3 cv3 sv3 rv3 ps3 Ms3 := Q3.own (Ch.wf C3) C4 V4 rfl rfl rfl
  have D4 := D3.thenR (Q3.dirtyT C4)
  simp only [wk, wt, wl, ↓reduceIte, Nat.reduceEqDiff, Nat.reduceAdd, Nat.zero_add, not_false_eq_true, not_true_eq_false, pt, m2, IX, e4]
  obtain ⟨r0, r1, r2, r3, r4, r5, r6, r7, r8, r9, r10, r11⟩ := Q4.load
  simp only [lastV] at r0 r1 r2 r3 r4 r5 r7
  have N5 := Keeps.new (Ch.wf C4) 21 [.int .i32 r]
  have R5 := rdI_one (Ch.wf C4) (r := r)
  have Q5 := Q4.keeps (Ch.wf C4) N5
  have F5 := Q4.fresh N5 (blk_new (x := h4.size) (n := 1) (c := 2))
  obtain ⟨h6, e6, G6, C6, z6⟩ := Q5.gp.set (c := ⟨[r], X.attr, false⟩) (Ch.wf N5) Q5.mc (i := A + k) (by show A + k < L.length; omega) R5 F5
  have Q6 := Q5.cells (Ch.wf N5) C6 G6
  have D6 := (D4.thenR N5.rg).thenR (Q5.dirtyC C6)
  simp only at e6
  refine adraw_order [(0, false), (1, false), (2, false), (3, false), (4, false), (6, false), (7, false), (8, false), (9, false), (5, true), (10, false), (11, false), (12, false)] mixed (by kernel_rfl) (by kernel_rfl) (by kernel_rfl) (by with_reducible repeat (first | exact PF_retK | refine PF_thenK ?_ | refine PF_blockK ?_)) ?_
  simp only [wk, wt, wl, ↓reduceIte, Nat.reduceEqDiff, Nat.reduceAdd, Nat.zero_add, not_false_eq_true, not_true_eq_false, dK_t, pt, r7, r5, build_cell2, e6]
  refine ⟨N5.reads (Ch.wf C4), ?_⟩
  by_cases hw22 : (w : Int) = 2
  · have d5 : decide ((w : Int) = 2) = true := decide_eq_true hw22
    have hpi : A + k < ps3.length := by rw [Q4.gp.length]; show A + k < L.length; omega
    obtain ⟨u0, u1, u2, u3, u4, u5, u6, u7, u8, u9, u10, u11⟩ := Q6.load
    simp only [lastV] at u7
    obtain ⟨h7, e7, G7, C7, z7⟩ := Q6.gp.fld (i := A + k) (j := 2) (t := 4) (v := .bool true) (p := (.slice (some ⟨h4.size, 0, none⟩) 1 2, ⟨[r], X.attr, false⟩)) (q := (.slice (some ⟨h4.size, 0, none⟩) 1 2, ⟨[r], X.attr, true⟩)) (Ch.wf C6) Q6.mc (by simp [hpi]) (by decide) asz4 rfl rfl (Q6.gp.rd (_, ⟨[r], X.attr, false⟩) (List.mem_set hpi _)) (Q6.gp.off (_, ⟨[r], X.attr, false⟩) (List.mem_set hpi _))
    have Q7 := Q6.cells (Ch.wf C6) C7 G7
    have D7 := D6.thenR (Q6.dirtyC C7)
    rw [List.set_set] at G7 Q7
    obtain ⟨v0, v1, v2, v3, v4, v5, v6, v7, v8, v9, v10, v11⟩ := Q7.load
    simp only at v0 v1 v2 v3 v4 v5
    have wi : IntKind.i64.wrap (((A + k : Nat) : Int) + 1) = ((A + k + 1 : Nat) : Int) := by rw [IntWalk.i64_in _ (by omega)]; omega
    have hl7 : (L.set (A + k) (⟨[r], X.attr, true⟩ : Cel)).length = L.length := List.length_set
    have IY := Q7.gp.index (z := ((A + k + 1 : Nat) : Int)) (by omega) (by show ((A + k + 1 : Nat) : Int) < ((L.set (A + k) (⟨[r], X.attr, true⟩ : Cel)).length : Int); omega)
    simp only [Int.toNat_natCast] at IY
    obtain ⟨h8, e8, G8, C8, z8⟩ := Q7.gp.set (tv := .slice none 0 0) (c := ⟨[], X.attr, false⟩) (Ch.wf C7) Q7.mc (i := A + k + 1) (by show A + k + 1 < (L.set (A + k) (⟨[r], X.attr, true⟩ : Cel)).length; omega) Rd.nil0 Fam.nil
    have Q8 := Q7.cells (Ch.wf C7) C8 G8
    have D8 := D7.thenR (Q7.dirtyC C8)
    simp only at e8
    simp only [wk, wt, wl, ↓reduceIte, Nat.reduceEqDiff, Nat.reduceAdd, Nat.zero_add, not_false_eq_true, not_true_eq_false, d5, pt, u7, e7]
    refine adraw_order [(0, false), (1, false), (2, false), (3, false), (4, false), (5, false), (6, false), (7, false), (8, false), (9, false), (10, false), (11, false), (12, false), (13, false)] mixed (by kernel_rfl) (by kernel_rfl) (by kernel_rfl) (by with_reducible repeat (first | exact PF_retK | refine PF_thenK ?_ | refine PF_blockK ?_)) ?_
    simp only [wk, wt, wl, ↓reduceIte, Nat.reduceEqDiff, Nat.reduceAdd, Nat.zero_add, not_false_eq_true, not_true_eq_false, dK_t, pt, v2, v5, wi, build_cellA, IY, e8]
    obtain ⟨n0, n1, n2, n3, n4, n5, n6, n7, n8, n9, n10, n11⟩ := Q8.load
    simp only at n0 n1 n2 n3 n4 n5
    have wk1 : IntKind.i64.wrap ((k : Int) + (w : Int)) = (k : Int) + w := IntWalk.i64_in _ (by omega)
    refine adraw_order [(0, false), (1, false), (2, false), (3, false), (4, false), (5, false), (6, false), (7, false), (8, false), (9, false), (10, false), (11, false), (12, false), (13, false)] mixed (by kernel_rfl) (by kernel_rfl) (by kernel_rfl) (by with_reducible repeat (first | exact PF_retK | refine PF_thenK ?_ | refine PF_blockK ?_)) ?_
    simp only [wk, wt, wl, ↓reduceIte, Nat.reduceEqDiff, Nat.reduceAdd, Nat.zero_add, not_false_eq_true, not_true_eq_false, dK_t, pt, n3, n4, wk1]
    refine (move_ok (r := X.row) (c := (k : Int) + w) (⟨_, _, _, _, _, _, Q8⟩ : PM _ Fs gs t nv gr { X with col := (k : Int), cells := (L.set (A + k) ⟨[r], X.attr, true⟩).set (A + k + 1) ⟨[], X.attr, false⟩, last := some (A + k) }) I.r I.c).use ?_
    rintro _ h9 ⟨rfl, P9, C9⟩
    simp only [wk, wt, wl, ↓reduceIte, Nat.reduceEqDiff, Nat.reduceAdd, Nat.zero_add, not_false_eq_true, not_true_eq_false]
    have hfin : putAt X r (w : Int) = moveX { X with col := (k : Int), cells := (L.set (A + k) ⟨[r], X.attr, true⟩).set (A + k + 1) ⟨[], X.attr, false⟩, last := some (A + k) } X.row ((k : Int) + w) := by
      have e1 : ((A : Int) + (k : Int)).toNat = A + k := by omega
      have e2 : clampZ X.row X.rows = X.row := clampZ_in I.row.1 I.row.2
      simp only [putAt, moveX, hk, hA, e1, e2, Int.toNat_natCast, hL, if_pos hw22, d5]
    rw [hfin]
    exact ⟨P9, D8.thenR C9⟩
  · have d5 : decide ((w : Int) = 2) = false := decide_eq_false hw22
    simp only [wk, wt, wl, ↓reduceIte, Nat.reduceEqDiff, Nat.reduceAdd, Nat.zero_add, not_false_eq_true, not_true_eq_false, d5]
    obtain ⟨n0, n1, n2, n3, n4, n5, n6, n7, n8, n9, n10, n11⟩ := Q6.load
    simp only at n0 n1 n2 n3 n4 n5
    have wk1 : IntKind.i64.wrap ((k : Int) + (w : Int)) = (k : Int) + w := IntWalk.i64_in _ (by omega)
    refine adraw_order [(0, false), (1, false), (2, false), (3, false), (4, false), (5, false), (6, false), (7, false), (8, false), (9, false), (10, false), (11, false), (12, false), (13, false)] mixed (by kernel_rfl) (by kernel_rfl) (by kernel_rfl) (by with_reducible repeat (first | exact PF_retK | refine PF_thenK ?_ | refine PF_blockK ?_)) ?_
    simp only [wk, wt, wl, ↓reduceIte, Nat.reduceEqDiff, Nat.reduceAdd, Nat.zero_add, not_false_eq_true, not_true_eq_false, dK_t, pt, n3, n4, wk1]
    refine (move_ok (r := X.row) (c := (k : Int) + w) (⟨_, _, _, _, _, _, Q6⟩ : PM _ Fs gs t nv gr { X with col := (k : Int), cells := L.set (A + k) ⟨[r], X.attr, false⟩, last := some (A + k) }) I.r I.c).use ?_
    rintro _ h9 ⟨rfl, P9, C9⟩
    simp only [wk, wt, wl, ↓reduceIte, Nat.reduceEqDiff, Nat.reduceAdd, Nat.zero_add, not_false_eq_true, not_true_eq_false]
    have hfin : putAt X r (w : Int) = moveX { X with col := (k : Int), cells := L.set (A + k) ⟨[r], X.attr, false⟩, last := some (A + k) } X.row ((k : Int) + w) := by
      have e1 : ((A : Int) + (k : Int)).toNat = A + k := by omega
      have e2 : clampZ X.row X.rows = X.row := clampZ_in I.row.1 I.row.2
      simp only [putAt, moveX, hk, hA, e1, e2, Int.toNat_natCast, hL, hw22, decide_false, if_false]
    rw [hfin]
    exact ⟨P9, D6.thenR C9⟩
end Go.Proofs.YtefpalmihdbmiaaDoor.Am
end
section
/- The program's terminal: the numbers of a sequence, by a walk. -/
set_option linter.unusedSimpArgs false
set_option linter.unusedVariables false
set_option maxHeartbeats 4000000
set_option maxRecDepth 20000
namespace Go.Proofs.YtefpalmihdbmiaaDoor.Am
open Go Go.RowKit Go.Proofs.Tryd
theorem put_ok {h : Heap} {Fs : Nat → Prop} {gs : List (Value × List Int)} {t : Nat} {nv : Value} {gr : Bool} {X : TX} {r : Int} (P : PM h Fs gs t nv gr X) (I : Inv X) (G : Gl h) (hr : isR r) :
    ACalls prog 48 #[pt t, .int .i32 r] h (fun y h' => y = .tuple #[] ∧ PM h' Fs gs t nv gr (putX X r) ∧ Ch (Rg Fs h) h h') := by
  by_cases hs : showL r = [r]
  · by_cases hw : widthZ r = 0
    · exact put_zero P I G hr hs hw
    · exact put_wide P I G hr hs hw
  · exact put_bad P hr hs
def vL (l : List Int) : List Value := l.map (Value.int .i64)
theorem vL_app {a b : List Int} : vL (a ++ b) = vL a ++ vL b := by simp [vL]
theorem bsI {h : Heap} {x : Int} : abuildSlice prog h 82 1 #[(0, .int .i64 x)] = some (.slice (some ⟨h.size, 0, none⟩) 1 2, h.new 3 [.int .i64 x]) :=
  build1 underlying82 asz3 azero3 rfl rfl
theorem numsGo_len : ∀ {b l : List Int} {n : Int} {r : List Int}, numsGo l n b = some r → l.length + 1 ≤ r.length ∧ r.length ≤ l.length + 1 + b.length
  | [], l, n, r, h => by simp [numsGo] at h; subst h; simp
  | x :: b, l, n, r, h => by
    simp only [numsGo] at h
    split at h
    · have := numsGo_len h; simp at this ⊢; omega
    · split at h
      · have := numsGo_len h; simp at this ⊢; omega
      · cases h
def numsT (m : Nat) (h' : Heap) (y : Value) : Option (List Int) → Prop
  | none => y = .tuple #[.slice none 0 0, .bool false]
  | some l => ∃ v, y = .tuple #[v, .bool true] ∧ RdI prog h' .i64 v l ∧ ∀ z, blkOf v = some z → m ≤ z
theorem numbers_ok {bv : Value} {b : List Int} {h : Heap} (R : RdI prog h .u8 bv b) (hb : ∀ x, x ∈ b → isB x) (hl : b.length ≤ 1000) :
    ACalls prog 76 #[bv] h (fun y h' => numsT h.size h' y (numsGo [] 0 b) ∧ Keeps h h') := by
  refine acalls_of_W' func76 rfl (by kernel_rfl) (by kernel_rfl) (by simp [ntmps76]) ?_
  intro H
  have N1 := Keeps.new H 3 [.int .i64 0]
  have O1 : OwnR prog (h.new 3 [.int .i64 0]) 1 (.slice (some ⟨h.size, 0, none⟩) 1 2) 1 (vL ([] ++ [0])) := OwnR.new H asz3 rfl
  simp only [wk, wt, wl, ↓reduceIte, Nat.reduceEqDiff, Nat.reduceAdd, Nat.zero_add, not_false_eq_true, not_true_eq_false, bsI, R.len underlying29]
  refine W_loop (fun tm hh => tm 9 = bv ∧ tm 10 = .int .i64 b.length ∧ tm 0 = bv ∧ Keeps h hh ∧ ∃ (i : Nat) (l : List Int) (n : Int) (v : Value), tm 11 = .int .i64 (i : Int) ∧ tm 4 = v ∧ i ≤ b.length ∧ l.length ≤ i ∧ 0 ≤ n ∧ n ≤ 9999 ∧ OwnR prog hh 1 v (l.length + 1) (vL (l ++ [n])) ∧ Fam hh (fun m => h.size ≤ m) v ∧ numsGo [] 0 b = numsGo l n (b.drop i))
    (fun tm _ => (b.length - intOf (tm 11)).toNat) ⟨(by first | rfl | (simp only [wk, wt, wl, ↓reduceIte, Nat.reduceEqDiff, Nat.reduceAdd, Nat.zero_add, not_false_eq_true, not_true_eq_false]; done) | (simp only [wk, wt, wl, ↓reduceIte, Nat.reduceEqDiff, Nat.reduceAdd, Nat.zero_add, not_false_eq_true, not_true_eq_false]; rfl)), (by first | rfl | (simp only [wk, wt, wl, ↓reduceIte, Nat.reduceEqDiff, Nat.reduceAdd, Nat.zero_add, not_false_eq_true, not_true_eq_false]; done) | (simp only [wk, wt, wl, ↓reduceIte, Nat.reduceEqDiff, Nat.reduceAdd, Nat.zero_add, not_false_eq_true, not_true_eq_false]; rfl)), (by first | rfl | (simp only [wk, wt, wl, ↓reduceIte, Nat.reduceEqDiff, Nat.reduceAdd, Nat.zero_add, not_false_eq_true, not_true_eq_false]; done) | (simp only [wk, wt, wl, ↓reduceIte, Nat.reduceEqDiff, Nat.reduceAdd, Nat.zero_add, not_false_eq_true, not_true_eq_false]; rfl)), N1, 0, [], 0, .slice (some ⟨h.size, 0, none⟩) 1 2, (by first | rfl | (simp only [wk, wt, wl, ↓reduceIte, Nat.reduceEqDiff, Nat.reduceAdd, Nat.zero_add, not_false_eq_true, not_true_eq_false]; done) | (simp only [wk, wt, wl, ↓reduceIte, Nat.reduceEqDiff, Nat.reduceAdd, Nat.zero_add, not_false_eq_true, not_true_eq_false]; rfl)), (by first | rfl | (simp only [wk, wt, wl, ↓reduceIte, Nat.reduceEqDiff, Nat.reduceAdd, Nat.zero_add, not_false_eq_true, not_true_eq_false]; done) | (simp only [wk, wt, wl, ↓reduceIte, Nat.reduceEqDiff, Nat.reduceAdd, Nat.zero_add, not_false_eq_true, not_true_eq_false]; rfl)), by omega, by simp, by omega, by omega, O1, (Fam.freshK N1 blk_new).mono fun n hn => hn.1, rfl⟩ ?_
  rintro tm hh ⟨t9, t10, t0, K, i, l, n, v, t11, t4, hi, hli, hn0, hn9, O, hv, hg⟩
  simp only [wk, wt, wl, ↓reduceIte, Nat.reduceEqDiff, Nat.reduceAdd, Nat.zero_add, not_false_eq_true, not_true_eq_false, t9, t10, t11, t4]
  refine condK_dec (fun hd => ?_) (fun hd => ?_)
  · have hi1 : i < b.length := by omega
    have R1 := R.keeps K
    have IX := R1.index underlying29 asz5 (q := .i64) (i := (i : Int)) (by omega) (by omega)
    have LX := R1.at (i := i) (t := 5) underlying5 rfl hi1
    simp only [Int.toNat_natCast] at IX
    obtain ⟨x, hx⟩ : ∃ x, b[i]? = some x := ⟨b[i], List.getElem?_eq_getElem hi1⟩
    have hgd : b.getD i 0 = x := by simp [List.getD, hx]
    rw [hgd] at LX
    have hxb := hb x (List.mem_of_getElem? hx)
    have hdr : b.drop i = x :: b.drop (i + 1) := by rw [List.drop_eq_getElem_cons hi1]; congr 1; exact (List.getElem?_eq_some_iff.1 hx).2
    rw [hdr] at hg
    have LV := O.1.len underlying82
    have IV := Rd.index O.1 underlying82 asz3 (q := .i64) (i := (l.length : Int)) (by omega) (by omega)
    simp only [Int.toNat_natCast] at IV
    have wl1 : IntKind.i64.wrap (((l.length + 1 : Nat) : Int) - 1) = (l.length : Int) := by rw [IntWalk.i64_in _ (by omega)]; omega
    have wi : IntKind.i64.wrap ((i : Int) + 1) = ((i + 1 : Nat) : Int) := by rw [IntWalk.i64_in _ (by omega)]; omega
    have dirt : ∀ y, FamV hh v y → h.size ≤ y := fun y d => by
      obtain ⟨k, g, f⟩ := FamV.rg hv d
      have := (Ch.wf K).2 y k g
      omega
    have hvl : ∀ z, blkOf v = some z → z < hh.size := fun z hz => (O.1.blk_lt hz).1
    by_cases c1 : x = 59
    · have d1 : decide (x = 59) = true := decide_eq_true c1
      have hg1 : numsGo l n (x :: b.drop (i + 1)) = numsGo (l ++ [n]) 0 (b.drop (i + 1)) := by simp only [numsGo]; rw [if_pos c1]
      rw [hg1] at hg
      obtain ⟨h2, e2, O2, z2, C2, ⟨k2, q1, q2, q3⟩, _⟩ := O.append1 (P := prog) (Ch.wf K) underlying82 elem3 fits3 (by decide) (xs := [.int .i64 0]) rfl (by omega)
      have K2 := K.step C2 dirt
      have hle := Ch.le K
      simp only [wk, wt, wl, ↓reduceIte, Nat.reduceEqDiff, Nat.reduceAdd, Nat.zero_add, not_false_eq_true, not_true_eq_false, t9, t10, t11, t4, IX, LX, LV, wl1, IV, d1, bsI, e2, wi, intOf_int]
      refine ⟨⟨t0, K2, i + 1, l ++ [n], 0, _, rfl, rfl, by omega, by simp; omega, by omega, by omega, ?_, fun z k hz g => ?_, hg⟩, by omega⟩
      · have := O2
        rw [List.length_append, List.length_singleton, vL_app]; exact this
      · cases hz
        rw [q1] at g; cases g
        rcases q3 with e | ⟨w, kw, hw, gw, e⟩
        · rw [e]; show h.size ≤ _; omega
        · rw [e]; exact hv w kw hw gw
    · have d1 : decide (x = 59) = false := decide_eq_false c1
      by_cases c2 : 48 ≤ x ∧ x ≤ 57
      · have d2 : decide (48 ≤ x) = true := decide_eq_true c2.1
        have d3 : decide (x ≤ 57) = true := decide_eq_true c2.2
        have hg1 : numsGo l n (x :: b.drop (i + 1)) = numsGo l (imin (n * 10 + (x - 48)) 9999) (b.drop (i + 1)) := by simp only [numsGo]; rw [if_neg c1, if_pos c2]
        rw [hg1] at hg
        have M1 := imin_spec (n * 10 + (x - 48)) 9999
        have LN := O.1.at0 (t := 3) underlying3 rfl (i := l.length) (by omega) (by omega)
        have hat : (vL (l ++ [n]))[l.length * 1]? = some (.int .i64 n) := by simp [vL]
        rw [hat] at LN
        have w1 : IntKind.i64.wrap (n * 10) = n * 10 := IntWalk.i64_in _ (by omega)
        have w2 : IntKind.u8.wrap (x - 48) = x - 48 := IntWalk.u8_in _ (by omega)
        have w3 : IntKind.i64.wrap (x - 48) = x - 48 := IntWalk.i64_in _ (by omega)
        have w4 : IntKind.i64.wrap (n * 10 + (x - 48)) = n * 10 + (x - 48) := IntWalk.i64_in _ (by omega)
        obtain ⟨h2, e2, O2, C2, z2, f2, _⟩ := O.storeA (P := prog) (Ch.wf K) (t := 3) (w := .int .i64 (imin (n * 10 + (x - 48)) 9999)) (i := l.length) asz3 (by simp [Value.cells]) (by simp [Value.cells, one]) (by omega)
        have K2 := K.step C2 dirt
        have hov : over (vL (l ++ [n])) (l.length * 1) (Value.int .i64 (imin (n * 10 + (x - 48)) 9999)).cells.toList = vL (l ++ [imin (n * 10 + (x - 48)) 9999]) := by
          simp [Value.cells, over, vL]
        rw [hov] at O2
        have cv : ∀ h, aconv prog h 5 3 (.int .u8 (x - 48)) = some (.int .i64 (x - 48)) := fun h => by simp [aconv, underlying5, underlying3, w3]
        simp only [wk, wt, wl, ↓reduceIte, Nat.reduceEqDiff, Nat.reduceAdd, Nat.zero_add, not_false_eq_true, not_true_eq_false, t9, t10, t11, t4, IX, LX, LV, wl1, IV, d1, d2, d3, LN, w1, w2, cv, w4, mnV, e2, wi, intOf_int]
        exact ⟨⟨t0, K2, i + 1, l, _, v, rfl, rfl, by omega, by omega, by omega, by omega, O2, hv.ch C2 hvl, hg⟩, by omega⟩
      · have hg1 : numsGo l n (x :: b.drop (i + 1)) = none := by simp only [numsGo]; rw [if_neg c1, if_neg c2]
        rw [hg1] at hg
        rw [hg]
        by_cases c3 : 48 ≤ x
        · have d2 : decide (48 ≤ x) = true := decide_eq_true c3
          have d3 : decide (x ≤ 57) = false := decide_eq_false fun e => c2 ⟨c3, e⟩
          simp only [wk, wt, wl, ↓reduceIte, Nat.reduceEqDiff, Nat.reduceAdd, Nat.zero_add, not_false_eq_true, not_true_eq_false, t9, t10, t11, t4, IX, LX, LV, wl1, IV, d1, d2, d3]
          exact ⟨rfl, K⟩
        · have d2 : decide (48 ≤ x) = false := decide_eq_false c3
          simp only [wk, wt, wl, ↓reduceIte, Nat.reduceEqDiff, Nat.reduceAdd, Nat.zero_add, not_false_eq_true, not_true_eq_false, t9, t10, t11, t4, IX, LX, LV, wl1, IV, d1, d2]
          exact ⟨rfl, K⟩
  · obtain rfl : i = b.length := by omega
    rw [List.drop_length] at hg
    simp only [wk, wt, wl, ↓reduceIte, Nat.reduceEqDiff, Nat.reduceAdd, Nat.zero_add, not_false_eq_true, not_true_eq_false, t4]
    rw [hg]
    exact ⟨⟨v, rfl, by have := O.1; simpa [RdI, vL] using this, fun z hz => by
      obtain ⟨k, g, _⟩ := O.2 z hz
      have h1 := hv z k hz g
      have h2 := (Ch.wf K).2 z k g
      omega⟩, K⟩
end Go.Proofs.YtefpalmihdbmiaaDoor.Am
end
section
/- The program's terminal: the contract of erase, by a walk. -/
set_option linter.unusedSimpArgs false
set_option linter.unusedVariables false
set_option maxHeartbeats 4000000
set_option maxRecDepth 20000
namespace Go.Proofs.YtefpalmihdbmiaaDoor.Am
open Go Go.RowKit Go.Proofs.Tryd
theorem wipeI_ok {h : Heap} {Fs : Nat → Prop} {gs : List (Value × List Int)} {t : Nat} {nv : Value} {gr : Bool} {X : TX} {F T : Nat} (P : PM h Fs gs t nv gr X) (I : Inv X) (hT : T ≤ X.cells.length) :
    ACalls prog 63 #[pt t, .int .i64 F, .int .i64 T] h (fun y h' => y = .tuple #[] ∧ PM h' Fs gs t nv gr { X with cells := wipeL X.cells F T } ∧ Ch (Rg Fs h) h h') := by
  obtain ⟨A, hA, hAl, hlen, _⟩ := I.rowA
  refine wipe_ok P hT hlen (fun hlt he => ?_) (fun hlt he => ?_)
  · have hi : F < X.cells.length := by omega
    have hx : X.cells[F]? = some X.cells[F] := List.getElem?_eq_getElem hi
    rw [getD_at hx] at he
    obtain ⟨j, d, h1, _⟩ := I.emp _ _ hx he
    omega
  · have hi : T - 1 < X.cells.length := by omega
    have hx : X.cells[T - 1]? = some X.cells[T - 1] := List.getElem?_eq_getElem hi
    rw [getD_at hx] at he
    obtain ⟨d, h1, _⟩ := I.wid _ _ hx he
    have := (List.getElem?_eq_some_iff.1 h1).1
    omega
theorem erase_ok {h : Heap} {Fs : Nat → Prop} {gs : List (Value × List Int)} {t : Nat} {nv : Value} {gr : Bool} {X : TX} {q : Int} {F T : Nat} (P : PM h Fs gs t nv gr X) (I : Inv X) (hT : T ≤ X.cells.length) :
    ACalls prog 78 #[pt t, .int .i64 q, .int .i64 F, .int .i64 T] h (fun y h' => y = .tuple #[] ∧ PM h' Fs gs t nv gr (eraseX X q F T) ∧ Ch (Rg Fs h) h h') := by
  refine acalls_of_W' func78 rfl (by kernel_rfl) (by kernel_rfl) (by simp [ntmps78]) ?_
  intro H
  have P0 := P
  obtain ⟨f, cv, sv, rv, ps, Ms, Q⟩ := P
  obtain ⟨l0, l1, l2, l3, l4, l5, l6, l7, l8, l9, l10, l11⟩ := Q.load
  obtain ⟨A, hA, hAl, hlen, _⟩ := I.rowA
  have hcol := I.col
  obtain ⟨c, hc⟩ : ∃ c : Nat, X.col = (c : Int) := ⟨X.col.toNat, by omega⟩
  have wm : IntKind.i64.wrap (X.row * X.cols) = (A : Int) := by rw [hA]; exact IntWalk.i64_in _ (by omega)
  have wa : IntKind.i64.wrap ((A : Int) + X.col) = ((A + c : Nat) : Int) := by rw [IntWalk.i64_in _ (by omega)]; omega
  have w1 : IntKind.i64.wrap (((A + c : Nat) : Int) + 1) = ((A + c + 1 : Nat) : Int) := by rw [IntWalk.i64_in _ (by omega)]; omega
  have e0 : (X.row * X.cols + X.col).toNat = A + c := by rw [hA]; omega
  have e1 : (X.row * X.cols + X.col + 1).toNat = A + c + 1 := by rw [hA]; omega
  simp only [wk, wt, wl, ↓reduceIte, Nat.reduceEqDiff, Nat.reduceAdd, Nat.zero_add, not_false_eq_true, not_true_eq_false, pt]
  refine adraw_order [(0, false), (1, false), (2, false), (3, false), (4, false), (5, false), (6, false), (7, false), (8, false), (9, false), (10, false), (11, false), (12, false), (13, false), (14, false), (15, false), (16, false), (17, false)] mixed (by kernel_rfl) (by kernel_rfl) (by kernel_rfl) (by with_reducible repeat (first | exact PF_retK | refine PF_thenK ?_ | refine PF_blockK ?_)) ?_
  by_cases c0 : q = 0
  · have d0 := decide_eq_true c0
    have hX : eraseX X q F T = { X with cells := wipeL X.cells (A + c) T } := by simp only [eraseX]; rw [if_pos c0, e0, Int.toNat_natCast]
    rw [hX]
    simp only [wk, wt, wl, ↓reduceIte, Nat.reduceEqDiff, Nat.reduceAdd, Nat.zero_add, not_false_eq_true, not_true_eq_false, l1, l3, l4, wm, wa, d0]
    refine (wipeI_ok P0 I hT).use ?_
    rintro _ h1 ⟨rfl, P1, C1⟩
    simp only [wk, wt, wl, ↓reduceIte, Nat.reduceEqDiff, Nat.reduceAdd, Nat.zero_add, not_false_eq_true, not_true_eq_false]
    exact ⟨P1, C1⟩
  · have d0 := decide_eq_false c0
    by_cases c1 : q = 1
    · have d1 := decide_eq_true c1
      have hX : eraseX X q F T = { X with cells := wipeL X.cells F (A + c + 1) } := by simp only [eraseX]; rw [if_neg c0, if_pos c1, e1, Int.toNat_natCast]
      rw [hX]
      simp only [wk, wt, wl, ↓reduceIte, Nat.reduceEqDiff, Nat.reduceAdd, Nat.zero_add, not_false_eq_true, not_true_eq_false, l1, l3, l4, wm, wa, d0, d1, w1]
      refine (wipeI_ok P0 I (by omega)).use ?_
      rintro _ h1 ⟨rfl, P1, C1⟩
      simp only [wk, wt, wl, ↓reduceIte, Nat.reduceEqDiff, Nat.reduceAdd, Nat.zero_add, not_false_eq_true, not_true_eq_false]
      exact ⟨P1, C1⟩
    · have d1 := decide_eq_false c1
      by_cases c2 : q = 2
      · have d2 := decide_eq_true c2
        have hX : eraseX X q F T = { X with cells := wipeL X.cells F T } := by simp only [eraseX]; rw [if_neg c0, if_neg c1, if_pos c2, Int.toNat_natCast, Int.toNat_natCast]
        rw [hX]
        simp only [wk, wt, wl, ↓reduceIte, Nat.reduceEqDiff, Nat.reduceAdd, Nat.zero_add, not_false_eq_true, not_true_eq_false, l1, l3, l4, wm, wa, d0, d1, d2]
        refine (wipeI_ok P0 I hT).use ?_
        rintro _ h1 ⟨rfl, P1, C1⟩
        simp only [wk, wt, wl, ↓reduceIte, Nat.reduceEqDiff, Nat.reduceAdd, Nat.zero_add, not_false_eq_true, not_true_eq_false]
        exact ⟨P1, C1⟩
      · have d2 := decide_eq_false c2
        have hX : eraseX X q F T = X := by simp only [eraseX]; rw [if_neg c0, if_neg c1, if_neg c2]
        rw [hX]
        simp only [wk, wt, wl, ↓reduceIte, Nat.reduceEqDiff, Nat.reduceAdd, Nat.zero_add, not_false_eq_true, not_true_eq_false, l1, l3, l4, wm, wa, d0, d1, d2]
        exact ⟨P0, (Keeps.refl H).rg⟩
end Go.Proofs.YtefpalmihdbmiaaDoor.Am
end
section
/- Is a number among others: contracts of slices.Index, slices.Contains, by walks. -/
set_option linter.unusedSimpArgs false
set_option linter.unusedVariables false
set_option maxHeartbeats 4000000
set_option maxRecDepth 20000
namespace Go.Proofs.YtefpalmihdbmiaaDoor.Am
open Go Go.RowKit Go.Proofs.Tryd
theorem body_index : hasBody prog 79 = true := by kernel_rfl
theorem body_has : hasBody prog 77 = true := by kernel_rfl
theorem call_index {all : Array Oper} {Q : Exit → Tm → Heap → Prop} {rest : List Oper} {tm : Tm} {h : Heap} {d : Option Tmp} {ty : TypeId} {pos : String} {aft : Array Edge} {args : Array Operand} {ts : Array TypeId} :
    aops prog all Q ({ dst := d, op := .call { callee := .value (.func 79), args := args, argTypes := ts }, type := ty, pos := pos, after := aft, guard := none } :: rest) tm h = ACallsX prog 79 (args.map (ev tm)) h (nextH prog all Q rest tm d) (panicK Q tm) := aops_call body_index
theorem call_has {all : Array Oper} {Q : Exit → Tm → Heap → Prop} {rest : List Oper} {tm : Tm} {h : Heap} {d : Option Tmp} {ty : TypeId} {pos : String} {aft : Array Edge} {args : Array Operand} {ts : Array TypeId} :
    aops prog all Q ({ dst := d, op := .call { callee := .value (.func 77), args := args, argTypes := ts }, type := ty, pos := pos, after := aft, guard := none } :: rest) tm h = ACallsX prog 77 (args.map (ev tm)) h (nextH prog all Q rest tm d) (panicK Q tm) := aops_call body_has
theorem index_ok {v : Value} {l : List Int} {x : Int} {h : Heap} (R : RdI prog h .i64 v l) (hl : l.length ≤ 1000000) : ACalls prog 79 #[v, .int .i64 x] h (fun y h' => ∃ z : Int, y = .int .i64 z ∧ (0 ≤ z ↔ x ∈ l) ∧ h' = h) := by
  refine acalls_of_W func79 rfl (by kernel_rfl) (by kernel_rfl) (by simp [ntmps79]) ?_
  simp only [wk, wt, wl, ↓reduceIte, Nat.reduceEqDiff, Nat.reduceAdd, Nat.zero_add, not_false_eq_true, not_true_eq_false, R.len underlying82]
  refine W_loop (fun tm h' => h' = h ∧ tm 0 = v ∧ tm 1 = .int .i64 x ∧ tm 7 = .int .i64 l.length ∧ ∃ i : Nat, tm 8 = .int .i64 (i : Int) ∧ i ≤ l.length ∧ ∀ j, j < i → l.getD j 0 ≠ x)
    (fun tm _ => (l.length - intOf (tm 8)).toNat) ⟨rfl, (by first | rfl | (simp only [wk, wt, wl, ↓reduceIte, Nat.reduceEqDiff, Nat.reduceAdd, Nat.zero_add, not_false_eq_true, not_true_eq_false]; done) | (simp only [wk, wt, wl, ↓reduceIte, Nat.reduceEqDiff, Nat.reduceAdd, Nat.zero_add, not_false_eq_true, not_true_eq_false]; rfl)), (by first | rfl | (simp only [wk, wt, wl, ↓reduceIte, Nat.reduceEqDiff, Nat.reduceAdd, Nat.zero_add, not_false_eq_true, not_true_eq_false]; done) | (simp only [wk, wt, wl, ↓reduceIte, Nat.reduceEqDiff, Nat.reduceAdd, Nat.zero_add, not_false_eq_true, not_true_eq_false]; rfl)), (by first | rfl | (simp only [wk, wt, wl, ↓reduceIte, Nat.reduceEqDiff, Nat.reduceAdd, Nat.zero_add, not_false_eq_true, not_true_eq_false]; done) | (simp only [wk, wt, wl, ↓reduceIte, Nat.reduceEqDiff, Nat.reduceAdd, Nat.zero_add, not_false_eq_true, not_true_eq_false]; rfl)), 0, (by first | rfl | (simp only [wk, wt, wl, ↓reduceIte, Nat.reduceEqDiff, Nat.reduceAdd, Nat.zero_add, not_false_eq_true, not_true_eq_false]; done) | (simp only [wk, wt, wl, ↓reduceIte, Nat.reduceEqDiff, Nat.reduceAdd, Nat.zero_add, not_false_eq_true, not_true_eq_false]; rfl)), by omega, fun j hj => by omega⟩ ?_
  rintro tm h' ⟨rfl, t0, t1, t7, i, t8, hi, hno⟩
  simp only [wk, wt, wl, ↓reduceIte, Nat.reduceEqDiff, Nat.reduceAdd, Nat.zero_add, not_false_eq_true, not_true_eq_false, t0, t1, t7, t8]
  refine condK_dec (fun hd => ?_) (fun hd => ?_)
  · have hi1 : i < l.length := by omega
    have IX := R.index underlying82 asz3 (q := .i64) (i := (i : Int)) (by omega) (by omega)
    have LX := R.at (i := i) (t := 3) underlying3 rfl hi1
    simp only [Int.toNat_natCast] at IX
    have hmem : l.getD i 0 ∈ l := by simp [List.getD, List.getElem?_eq_getElem hi1]
    by_cases hc : x = l.getD i 0
    · have d1 := decide_eq_true hc
      simp only [wk, wt, wl, ↓reduceIte, Nat.reduceEqDiff, Nat.reduceAdd, Nat.zero_add, not_false_eq_true, not_true_eq_false, t0, t1, t7, t8, IX, LX, d1]
      exact ⟨(i : Int), rfl, ⟨fun _ => by rw [hc]; exact hmem, fun _ => by omega⟩, trivial⟩
    · have d1 := decide_eq_false hc
      have wi : IntKind.i64.wrap ((i : Int) + 1) = ((i + 1 : Nat) : Int) := by rw [IntWalk.i64_in _ (by omega)]; omega
      simp only [wk, wt, wl, ↓reduceIte, Nat.reduceEqDiff, Nat.reduceAdd, Nat.zero_add, not_false_eq_true, not_true_eq_false, t0, t1, t7, t8, IX, LX, d1, wi, intOf_int]
      refine ⟨⟨i + 1, rfl, by omega, fun j hj => ?_⟩, by omega⟩
      rcases Nat.lt_or_eq_of_le (Nat.lt_succ_iff.1 hj) with g | rfl
      · exact hno j g
      · exact fun e => hc e.symm
  · simp only [wk, wt, wl, ↓reduceIte, Nat.reduceEqDiff, Nat.reduceAdd, Nat.zero_add, not_false_eq_true, not_true_eq_false]
    refine ⟨-1, rfl, ⟨fun e => by omega, fun hx => ?_⟩, trivial⟩
    obtain ⟨j, hj, e⟩ := List.getElem_of_mem hx
    exact absurd (by rw [List.getD_eq_getElem?_getD, List.getElem?_eq_getElem hj]; exact e) (hno j (by omega))
theorem has_ok {v : Value} {l : List Int} {x : Int} {h : Heap} (R : RdI prog h .i64 v l) (hl : l.length ≤ 1000000) : ACalls prog 77 #[v, .int .i64 x] h (fun y h' => y = .bool (decide (x ∈ l)) ∧ h' = h) := by
  refine acalls_of_W func77 rfl (by kernel_rfl) (by kernel_rfl) (by simp [ntmps77]) ?_
  simp only [wk, wt, wl, ↓reduceIte, Nat.reduceEqDiff, Nat.reduceAdd, Nat.zero_add, not_false_eq_true, not_true_eq_false, call_index]
  refine (index_ok R hl).use ?_
  rintro _ _ ⟨z, rfl, hz, rfl⟩
  have e : decide (0 ≤ z) = decide (x ∈ l) := decide_eq_decide.2 hz
  simp only [wk, wt, wl, ↓reduceIte, Nat.reduceEqDiff, Nat.reduceAdd, Nat.zero_add, not_false_eq_true, not_true_eq_false, e]
  all_goals exact ⟨rfl, trivial⟩
end Go.Proofs.YtefpalmihdbmiaaDoor.Am
end
section
/- The program's terminal: the contract of do, by a walk. -/
set_option linter.unusedSimpArgs false
set_option linter.unusedVariables false
set_option maxHeartbeats 4000000
set_option maxRecDepth 20000
namespace Go.Proofs.YtefpalmihdbmiaaDoor.Am
open Go Go.RowKit Go.Proofs.Tryd
theorem bool_neq {x y : Bool} : abin prog .neq 4 (.bool x) (.bool y) = some (.bool (!(x == y))) := by simp [abin, aeq, underlying4]
/-- What the sequence's numbers are, and what it does. -/
theorem seqX_none {X : TX} {s : List Int} {b : Int} (h : numsGo [] 0 (if asksB s = true then s.tail else s) = none) : seqX X s b = X := by unfold seqX; rw [h]
theorem seqX_some {X : TX} {s l : List Int} {b : Int} (h : numsGo [] 0 (if asksB s = true then s.tail else s) = some l) : seqX X s b = if asksB s = decide (b = 104 ∨ b = 108) then doX X l b else X := by unfold seqX; rw [h]
theorem numsGo_bd : ∀ {b l : List Int} {n : Int} {r : List Int}, numsGo l n b = some r → (∀ x, x ∈ l → 0 ≤ x ∧ x ≤ 9999) → 0 ≤ n ∧ n ≤ 9999 → ∀ x, x ∈ r → 0 ≤ x ∧ x ≤ 9999
  | [], l, n, r, h, hl, hn => by
    simp [numsGo] at h; subst h
    intro x hx
    rcases List.mem_append.1 hx with hx | hx
    · exact hl x hx
    · obtain rfl := List.mem_singleton.1 hx; exact hn
  | y :: b, l, n, r, h, hl, hn => by
    simp only [numsGo] at h
    split at h
    · refine numsGo_bd h (fun x hx => ?_) (by omega)
      rcases List.mem_append.1 hx with hx | hx
      · exact hl x hx
      · obtain rfl := List.mem_singleton.1 hx; exact hn
    · split at h
      · have M1 := imin_spec (n * 10 + (y - 48)) 9999
        exact numsGo_bd h hl (by omega)
      · cases h
theorem getD_bd {l : List Int} (h : ∀ x, x ∈ l → 0 ≤ x ∧ x ≤ 9999) (i : Nat) : 0 ≤ l.getD i 0 ∧ l.getD i 0 ≤ 9999 := by
  cases hx : l[i]? with
  | none => simp [List.getD, hx]
  | some x => simp [List.getD, hx]; exact h x (List.mem_of_getElem? hx)
theorem do_ok {h : Heap} {Fs : Nat → Prop} {gs : List (Value × List Int)} {t : Nat} {nv : Value} {gr : Bool} {X : TX} {b : Int} (P : PM h Fs gs t nv gr X) (I : Inv X) (hsl : X.seq.length ≤ 32) (hsb : ∀ x, x ∈ X.seq → isB x) (hb : isB b) :
    ACalls prog 73 #[pt t, .int .u8 b] h (fun y h' => y = .tuple #[] ∧ PM h' Fs gs t nv gr (seqX X X.seq b) ∧ Ch (Rg Fs h) h h') := by
  refine acalls_of_W' func73 rfl (by kernel_rfl) (by kernel_rfl) (by simp [ntmps73]) ?_
  intro H
  obtain ⟨f, cv, sv, rv, ps, Ms, Q⟩ := P
  obtain ⟨l0, l1, l2, l3, l4, l5, l6, l7, l8, l9, l10, l11⟩ := Q.load
  have RS : RdI prog h .u8 sv X.seq := Q.so.1
  have LS := RS.len underlying29
  cases ha : asksB X.seq with
  | true =>
    obtain ⟨r, hr⟩ : ∃ r, X.seq = 63 :: r := by
      have := of_decide_eq_true ha
      cases hs : X.seq with
      | nil => rw [hs] at this; cases this
      | cons x r => rw [hs] at this; simp at this; exact ⟨r, by rw [this]⟩
    have IX := RS.index underlying29 asz5 (q := .i64) (i := (0 : Int)) (by omega) (by rw [hr]; simp)
    have LX := RS.at (i := 0) (t := 5) underlying5 rfl (by rw [hr]; simp)
    have hx0 : X.seq.getD 0 0 = 63 := by rw [hr]; rfl
    rw [hx0] at LX
    simp only [show (0 : Int).toNat = 0 from rfl] at IX
    have d1 : decide (0 < (X.seq.length : Int)) = true := decide_eq_true (by rw [hr]; simp)
    have d2 : decide ((63 : Int) = 63) = true := rfl
    have S1 := Rd.sliceLo RS underlying29 asz5 (q := .i64) (i := (1 : Int)) (by omega) (by rw [hr]; simp; omega)
    have RB := RS.partLo (L := 1) (by rw [hr]; simp)
    have hdr : X.seq.drop 1 = r := by rw [hr]; rfl
    rw [hdr] at RB
    have hsel : (if asksB X.seq = true then X.seq.tail else X.seq) = r := by rw [if_pos ha, hr]; rfl
    have hbB : ∀ x, x ∈ r → isB x := fun x hx => hsb x (by rw [hr]; exact List.mem_cons_of_mem _ hx)
    have hbl : r.length ≤ 1000 := by have := hsl; rw [hr] at this; simp at this; omega
    simp only [wk, wt, wl, ↓reduceIte, Nat.reduceEqDiff, Nat.reduceAdd, Nat.zero_add, not_false_eq_true, not_true_eq_false, pt, l11, LS, IX, LX, d1, d2, S1, show (1 : Int).toNat = 1 from rfl]
    refine (numbers_ok (b := r) RB hbB hbl).use ?_
    rintro y h1 ⟨hy, K1⟩
    have Q1 := Q.keeps H K1
    obtain ⟨m0, m1, m2, m3, m4, m5, m6, m7, m8, m9, m10, m11⟩ := Q1.load
    have P1 : PM h1 Fs gs t nv gr X := ⟨_, _, _, _, _, _, Q1⟩
    have fin : PM h1 Fs gs t nv gr X ∧ Ch (Rg Fs h) h h1 := ⟨P1, K1.rg⟩
    cases hN : numsGo [] 0 (r) with
    | none =>
      rw [hN] at hy
      obtain rfl : y = .tuple #[.slice none 0 0, .bool false] := hy
      rw [seqX_none (by rw [hsel]; exact hN)]
      simp only [wk, wt, wl, ↓reduceIte, Nat.reduceEqDiff, Nat.reduceAdd, Nat.zero_add, not_false_eq_true, not_true_eq_false, Bool.not_false]
      exact fin
    | some l =>
      rw [hN] at hy
      obtain ⟨v, rfl, RL, hvz⟩ := hy
      rw [seqX_some (l := l) (by rw [hsel]; exact hN), ha]
      have hlen := numsGo_len hN
      simp only [List.length_nil, Nat.zero_add] at hlen
      by_cases b1 : b = 104
      · have e1 := decide_eq_true b1
        have e3 : decide (b = 104 ∨ b = 108) = true := decide_eq_true (.inl b1)
        have hX : doX X l b = if 25 ∈ l then { X with hid := decide (b = 108) } else X := by simp only [doX]; rw [if_pos (.inl b1)]
        rw [e3, if_pos rfl, hX]
        have hl0 : 0 < l.length := by omega
        have IL0 := RL.index underlying82 asz3 (q := .i64) (i := (0 : Int)) (by omega) (by omega)
        have LL0 := RL.at (i := 0) (t := 3) underlying3 rfl hl0
        have LLn := RL.len underlying82
        have hbd := numsGo_bd hN (fun x hx => by cases hx) (by omega)
        have g0 := getD_bd hbd 0
        have g1 := getD_bd hbd 1
        have X0 := imax_spec (l.getD 0 0) 1
        have X1 := imax_spec (l.getD 1 0) 1
        simp only [show (0 : Int).toNat = 0 from rfl] at IL0
        by_cases hl1 : 1 < l.length
        · have d8 : decide (1 < (l.length : Int)) = true := decide_eq_true (by omega)
          have IL1 := RL.index underlying82 asz3 (q := .i64) (i := (1 : Int)) (by omega) (by omega)
          have LL1 := RL.at (i := 1) (t := 3) underlying3 rfl hl1
          simp only [show (1 : Int).toNat = 1 from rfl] at IL1
          have hm : (if 1 < l.length then imax (l.getD 1 0) 1 else 1) = imax (l.getD 1 0) 1 := if_pos hl1
          simp only [wk, wt, wl, ↓reduceIte, Nat.reduceEqDiff, Nat.reduceAdd, Nat.zero_add, not_false_eq_true, not_true_eq_false, Bool.not_true, e1, show (!(true == true)) = false from rfl, bool_neq, IL0, LL0, LLn, mxV, d8, IL1, LL1]
          refine adraw_order [(0, false), (1, false), (2, false), (3, false), (4, false), (5, false), (6, false), (7, false), (8, false), (9, false), (10, false), (11, false)] mixed (by kernel_rfl) (by kernel_rfl) (by kernel_rfl) (by with_reducible repeat (first | exact PF_retK | refine PF_thenK ?_ | refine PF_blockK ?_)) ?_
          simp only [wk, wt, wl, ↓reduceIte, Nat.reduceEqDiff, Nat.reduceAdd, Nat.zero_add, not_false_eq_true, not_true_eq_false, dK_t, pt, m3, m4, e1, call_has]
          refine (has_ok (x := 25) RL (by have := hbl; omega)).use_pure ?_
          by_cases h25 : (25 : Int) ∈ l
          · have d25 := decide_eq_true h25
            obtain ⟨h2, e4, V2, C2, z2⟩ := Q1.var.store1 (P := prog) (t := 4) (v := .bool (decide (b = 108))) (i := 6) (Ch.wf K1) asz4 (by simp [tF]) rfl
            have Q2 : PT h2 Fs gs t nv gr { X with hid := decide (b = 108) } f cv sv rv ps Ms := Q1.own (Ch.wf K1) C2 V2 rfl rfl rfl
            simp only [wk, wt, wl, ↓reduceIte, Nat.reduceEqDiff, Nat.reduceAdd, Nat.zero_add, not_false_eq_true, not_true_eq_false, d25, pt, e4]
            rw [if_pos h25]
            exact ⟨⟨_, _, _, _, _, _, Q2⟩, K1.rg.thenR (Q1.dirtyT C2)⟩
          · have d25 := decide_eq_false h25
            simp only [wk, wt, wl, ↓reduceIte, Nat.reduceEqDiff, Nat.reduceAdd, Nat.zero_add, not_false_eq_true, not_true_eq_false, d25]
            rw [if_neg h25]
            exact fin
        · have d8 : decide (1 < (l.length : Int)) = false := decide_eq_false (by omega)
          have hm : (if 1 < l.length then imax (l.getD 1 0) 1 else 1) = 1 := if_neg hl1
          simp only [wk, wt, wl, ↓reduceIte, Nat.reduceEqDiff, Nat.reduceAdd, Nat.zero_add, not_false_eq_true, not_true_eq_false, Bool.not_true, e1, show (!(true == true)) = false from rfl, bool_neq, IL0, LL0, LLn, mxV, d8]
          refine adraw_order [(0, false), (1, false), (2, false), (3, false), (4, false), (5, false), (6, false), (7, false), (8, false), (9, false), (10, false), (11, false)] mixed (by kernel_rfl) (by kernel_rfl) (by kernel_rfl) (by with_reducible repeat (first | exact PF_retK | refine PF_thenK ?_ | refine PF_blockK ?_)) ?_
          simp only [wk, wt, wl, ↓reduceIte, Nat.reduceEqDiff, Nat.reduceAdd, Nat.zero_add, not_false_eq_true, not_true_eq_false, dK_t, pt, m3, m4, e1, call_has]
          refine (has_ok (x := 25) RL (by have := hbl; omega)).use_pure ?_
          by_cases h25 : (25 : Int) ∈ l
          · have d25 := decide_eq_true h25
            obtain ⟨h2, e4, V2, C2, z2⟩ := Q1.var.store1 (P := prog) (t := 4) (v := .bool (decide (b = 108))) (i := 6) (Ch.wf K1) asz4 (by simp [tF]) rfl
            have Q2 : PT h2 Fs gs t nv gr { X with hid := decide (b = 108) } f cv sv rv ps Ms := Q1.own (Ch.wf K1) C2 V2 rfl rfl rfl
            simp only [wk, wt, wl, ↓reduceIte, Nat.reduceEqDiff, Nat.reduceAdd, Nat.zero_add, not_false_eq_true, not_true_eq_false, d25, pt, e4]
            rw [if_pos h25]
            exact ⟨⟨_, _, _, _, _, _, Q2⟩, K1.rg.thenR (Q1.dirtyT C2)⟩
          · have d25 := decide_eq_false h25
            simp only [wk, wt, wl, ↓reduceIte, Nat.reduceEqDiff, Nat.reduceAdd, Nat.zero_add, not_false_eq_true, not_true_eq_false, d25]
            rw [if_neg h25]
            exact fin
      · have e1 := decide_eq_false b1
        by_cases b2 : b = 108
        · have e2 := decide_eq_true b2
          have e3 : decide (b = 104 ∨ b = 108) = true := decide_eq_true (.inr b2)
          have hX : doX X l b = if 25 ∈ l then { X with hid := decide (b = 108) } else X := by simp only [doX]; rw [if_pos (.inr b2)]
          rw [e3, if_pos rfl, hX]
          have hl0 : 0 < l.length := by omega
          have IL0 := RL.index underlying82 asz3 (q := .i64) (i := (0 : Int)) (by omega) (by omega)
          have LL0 := RL.at (i := 0) (t := 3) underlying3 rfl hl0
          have LLn := RL.len underlying82
          have hbd := numsGo_bd hN (fun x hx => by cases hx) (by omega)
          have g0 := getD_bd hbd 0
          have g1 := getD_bd hbd 1
          have X0 := imax_spec (l.getD 0 0) 1
          have X1 := imax_spec (l.getD 1 0) 1
          simp only [show (0 : Int).toNat = 0 from rfl] at IL0
          by_cases hl1 : 1 < l.length
          · have d8 : decide (1 < (l.length : Int)) = true := decide_eq_true (by omega)
            have IL1 := RL.index underlying82 asz3 (q := .i64) (i := (1 : Int)) (by omega) (by omega)
            have LL1 := RL.at (i := 1) (t := 3) underlying3 rfl hl1
            simp only [show (1 : Int).toNat = 1 from rfl] at IL1
            have hm : (if 1 < l.length then imax (l.getD 1 0) 1 else 1) = imax (l.getD 1 0) 1 := if_pos hl1
            simp only [wk, wt, wl, ↓reduceIte, Nat.reduceEqDiff, Nat.reduceAdd, Nat.zero_add, not_false_eq_true, not_true_eq_false, Bool.not_true, e1, e2, show (!(true == true)) = false from rfl, bool_neq, IL0, LL0, LLn, mxV, d8, IL1, LL1]
            refine adraw_order [(0, false), (1, false), (2, false), (3, false), (4, false), (5, false), (6, false), (7, false), (8, false), (9, false), (10, false), (11, false)] mixed (by kernel_rfl) (by kernel_rfl) (by kernel_rfl) (by with_reducible repeat (first | exact PF_retK | refine PF_thenK ?_ | refine PF_blockK ?_)) ?_
            simp only [wk, wt, wl, ↓reduceIte, Nat.reduceEqDiff, Nat.reduceAdd, Nat.zero_add, not_false_eq_true, not_true_eq_false, dK_t, pt, m3, m4, e1, e2, call_has]
            refine (has_ok (x := 25) RL (by have := hbl; omega)).use_pure ?_
            by_cases h25 : (25 : Int) ∈ l
            · have d25 := decide_eq_true h25
              obtain ⟨h2, e4, V2, C2, z2⟩ := Q1.var.store1 (P := prog) (t := 4) (v := .bool true) (i := 6) (Ch.wf K1) asz4 (by simp [tF]) rfl
              have Q2 : PT h2 Fs gs t nv gr { X with hid := true } f cv sv rv ps Ms := Q1.own (Ch.wf K1) C2 V2 rfl rfl rfl
              simp only [wk, wt, wl, ↓reduceIte, Nat.reduceEqDiff, Nat.reduceAdd, Nat.zero_add, not_false_eq_true, not_true_eq_false, d25, pt, e2, e4]
              rw [if_pos h25]
              exact ⟨⟨_, _, _, _, _, _, Q2⟩, K1.rg.thenR (Q1.dirtyT C2)⟩
            · have d25 := decide_eq_false h25
              simp only [wk, wt, wl, ↓reduceIte, Nat.reduceEqDiff, Nat.reduceAdd, Nat.zero_add, not_false_eq_true, not_true_eq_false, d25]
              rw [if_neg h25]
              exact fin
          · have d8 : decide (1 < (l.length : Int)) = false := decide_eq_false (by omega)
            have hm : (if 1 < l.length then imax (l.getD 1 0) 1 else 1) = 1 := if_neg hl1
            simp only [wk, wt, wl, ↓reduceIte, Nat.reduceEqDiff, Nat.reduceAdd, Nat.zero_add, not_false_eq_true, not_true_eq_false, Bool.not_true, e1, e2, show (!(true == true)) = false from rfl, bool_neq, IL0, LL0, LLn, mxV, d8]
            refine adraw_order [(0, false), (1, false), (2, false), (3, false), (4, false), (5, false), (6, false), (7, false), (8, false), (9, false), (10, false), (11, false)] mixed (by kernel_rfl) (by kernel_rfl) (by kernel_rfl) (by with_reducible repeat (first | exact PF_retK | refine PF_thenK ?_ | refine PF_blockK ?_)) ?_
            simp only [wk, wt, wl, ↓reduceIte, Nat.reduceEqDiff, Nat.reduceAdd, Nat.zero_add, not_false_eq_true, not_true_eq_false, dK_t, pt, m3, m4, e1, e2, call_has]
            refine (has_ok (x := 25) RL (by have := hbl; omega)).use_pure ?_
            by_cases h25 : (25 : Int) ∈ l
            · have d25 := decide_eq_true h25
              obtain ⟨h2, e4, V2, C2, z2⟩ := Q1.var.store1 (P := prog) (t := 4) (v := .bool true) (i := 6) (Ch.wf K1) asz4 (by simp [tF]) rfl
              have Q2 : PT h2 Fs gs t nv gr { X with hid := true } f cv sv rv ps Ms := Q1.own (Ch.wf K1) C2 V2 rfl rfl rfl
              simp only [wk, wt, wl, ↓reduceIte, Nat.reduceEqDiff, Nat.reduceAdd, Nat.zero_add, not_false_eq_true, not_true_eq_false, d25, pt, e2, e4]
              rw [if_pos h25]
              exact ⟨⟨_, _, _, _, _, _, Q2⟩, K1.rg.thenR (Q1.dirtyT C2)⟩
            · have d25 := decide_eq_false h25
              simp only [wk, wt, wl, ↓reduceIte, Nat.reduceEqDiff, Nat.reduceAdd, Nat.zero_add, not_false_eq_true, not_true_eq_false, d25]
              rw [if_neg h25]
              exact fin
        · have e2 := decide_eq_false b2
          have e3 : decide (b = 104 ∨ b = 108) = false := decide_eq_false fun e => e.elim b1 b2
          rw [e3, if_neg (by decide)]
          simp only [wk, wt, wl, ↓reduceIte, Nat.reduceEqDiff, Nat.reduceAdd, Nat.zero_add, not_false_eq_true, not_true_eq_false, Bool.not_true, e1, e2, bool_neq, show (!(true == false)) = true from rfl]
          exact fin
  | false =>
    have hsel : (if asksB X.seq = true then X.seq.tail else X.seq) = X.seq := by rw [ha]; rfl
    have RB := RS
    have hbB := hsb
    have hbl : X.seq.length ≤ 1000 := by omega
    cases hs : X.seq with
    | nil =>
      have d1 : decide (0 < (X.seq.length : Int)) = false := decide_eq_false (by rw [hs]; simp)
      rw [← hs]
      simp only [wk, wt, wl, ↓reduceIte, Nat.reduceEqDiff, Nat.reduceAdd, Nat.zero_add, not_false_eq_true, not_true_eq_false, pt, l11, LS, d1]
      refine (numbers_ok (b := X.seq) RB hbB hbl).use ?_
      rintro y h1 ⟨hy, K1⟩
      have Q1 := Q.keeps H K1
      obtain ⟨m0, m1, m2, m3, m4, m5, m6, m7, m8, m9, m10, m11⟩ := Q1.load
      have P1 : PM h1 Fs gs t nv gr X := ⟨_, _, _, _, _, _, Q1⟩
      have fin : PM h1 Fs gs t nv gr X ∧ Ch (Rg Fs h) h h1 := ⟨P1, K1.rg⟩
      cases hN : numsGo [] 0 (X.seq) with
      | none =>
        rw [hN] at hy
        obtain rfl : y = .tuple #[.slice none 0 0, .bool false] := hy
        rw [seqX_none (by rw [hsel]; exact hN)]
        simp only [wk, wt, wl, ↓reduceIte, Nat.reduceEqDiff, Nat.reduceAdd, Nat.zero_add, not_false_eq_true, not_true_eq_false, Bool.not_false]
        exact fin
      | some l =>
        rw [hN] at hy
        obtain ⟨v, rfl, RL, hvz⟩ := hy
        rw [seqX_some (l := l) (by rw [hsel]; exact hN), ha]
        have hlen := numsGo_len hN
        simp only [List.length_nil, Nat.zero_add] at hlen
        by_cases b1 : b = 104
        · have e1 := decide_eq_true b1
          have e3 : decide (b = 104 ∨ b = 108) = true := decide_eq_true (.inl b1)
          rw [e3, if_neg (by decide)]
          simp only [wk, wt, wl, ↓reduceIte, Nat.reduceEqDiff, Nat.reduceAdd, Nat.zero_add, not_false_eq_true, not_true_eq_false, Bool.not_true, e1, bool_neq, show (!(false == true)) = true from rfl]
          exact fin
        · have e1 := decide_eq_false b1
          by_cases b2 : b = 108
          · have e2 := decide_eq_true b2
            have e3 : decide (b = 104 ∨ b = 108) = true := decide_eq_true (.inr b2)
            rw [e3, if_neg (by decide)]
            simp only [wk, wt, wl, ↓reduceIte, Nat.reduceEqDiff, Nat.reduceAdd, Nat.zero_add, not_false_eq_true, not_true_eq_false, Bool.not_true, e1, e2, bool_neq, show (!(false == true)) = true from rfl]
            exact fin
          · have e2 := decide_eq_false b2
            have e3 : decide (b = 104 ∨ b = 108) = false := decide_eq_false fun e => e.elim b1 b2
            have hrow := I.row
            have hcol := I.col
            have hrr := I.r
            have hcc := I.c
            rw [e3, if_pos rfl]
            have nb : ¬ (b = 104 ∨ b = 108) := fun e => e.elim b1 b2
            by_cases c109 : b = 109
            · have f109 := decide_eq_true c109
              have hX : doX X l b = { X with attr := attrL X.attr l } := by simp only [doX]; rw [if_neg nb, if_pos c109]
              rw [hX]
              have hl0 : 0 < l.length := by omega
              have IL0 := RL.index underlying82 asz3 (q := .i64) (i := (0 : Int)) (by omega) (by omega)
              have LL0 := RL.at (i := 0) (t := 3) underlying3 rfl hl0
              have LLn := RL.len underlying82
              have hbd := numsGo_bd hN (fun x hx => by cases hx) (by omega)
              have g0 := getD_bd hbd 0
              have g1 := getD_bd hbd 1
              have X0 := imax_spec (l.getD 0 0) 1
              have X1 := imax_spec (l.getD 1 0) 1
              simp only [show (0 : Int).toNat = 0 from rfl] at IL0
              by_cases hl1 : 1 < l.length
              · have d8 : decide (1 < (l.length : Int)) = true := decide_eq_true (by omega)
                have IL1 := RL.index underlying82 asz3 (q := .i64) (i := (1 : Int)) (by omega) (by omega)
                have LL1 := RL.at (i := 1) (t := 3) underlying3 rfl hl1
                simp only [show (1 : Int).toNat = 1 from rfl] at IL1
                have hm : (if 1 < l.length then imax (l.getD 1 0) 1 else 1) = imax (l.getD 1 0) 1 := if_pos hl1
                simp only [wk, wt, wl, ↓reduceIte, Nat.reduceEqDiff, Nat.reduceAdd, Nat.zero_add, not_false_eq_true, not_true_eq_false, Bool.not_true, e1, e2, f109, show (!(false == false)) = false from rfl, bool_neq, IL0, LL0, LLn, mxV, d8, IL1, LL1]
                refine adraw_order [(0, false), (1, false), (2, false), (3, false), (4, false), (5, false), (6, false), (7, false), (8, false), (9, false), (10, false), (11, false)] mixed (by kernel_rfl) (by kernel_rfl) (by kernel_rfl) (by with_reducible repeat (first | exact PF_retK | refine PF_thenK ?_ | refine PF_blockK ?_)) ?_
                simp only [wk, wt, wl, ↓reduceIte, Nat.reduceEqDiff, Nat.reduceAdd, Nat.zero_add, not_false_eq_true, not_true_eq_false, dK_t, pt, m3, m4, e1, e2, f109, LLn]
                have hvt : blkOf v ≠ some t := fun e => by have := hvz t e; have := Q.var.lt H; omega
                refine W_loop (fun tm hh => tm 0 = pt t ∧ tm 81 = v ∧ tm 82 = .int .i64 l.length ∧ Ch (Rg Fs h) h hh ∧ RdI prog hh .i64 v l ∧ ∃ (i : Nat) (a : Int), tm 83 = .int .i64 (i : Int) ∧ i ≤ l.length ∧ PT hh Fs gs t nv gr { X with attr := a } f cv sv rv ps Ms ∧ attrL X.attr l = attrL a (l.drop i))
                  (fun tm _ => (l.length - intOf (tm 83)).toNat) ⟨(by first | rfl | (simp only [wk, wt, wl, ↓reduceIte, Nat.reduceEqDiff, Nat.reduceAdd, Nat.zero_add, not_false_eq_true, not_true_eq_false]; done) | (simp only [wk, wt, wl, ↓reduceIte, Nat.reduceEqDiff, Nat.reduceAdd, Nat.zero_add, not_false_eq_true, not_true_eq_false]; rfl)), (by first | rfl | (simp only [wk, wt, wl, ↓reduceIte, Nat.reduceEqDiff, Nat.reduceAdd, Nat.zero_add, not_false_eq_true, not_true_eq_false]; done) | (simp only [wk, wt, wl, ↓reduceIte, Nat.reduceEqDiff, Nat.reduceAdd, Nat.zero_add, not_false_eq_true, not_true_eq_false]; rfl)), (by first | rfl | (simp only [wk, wt, wl, ↓reduceIte, Nat.reduceEqDiff, Nat.reduceAdd, Nat.zero_add, not_false_eq_true, not_true_eq_false]; done) | (simp only [wk, wt, wl, ↓reduceIte, Nat.reduceEqDiff, Nat.reduceAdd, Nat.zero_add, not_false_eq_true, not_true_eq_false]; rfl)), K1.rg, RL, 0, X.attr, (by first | rfl | (simp only [wk, wt, wl, ↓reduceIte, Nat.reduceEqDiff, Nat.reduceAdd, Nat.zero_add, not_false_eq_true, not_true_eq_false]; done) | (simp only [wk, wt, wl, ↓reduceIte, Nat.reduceEqDiff, Nat.reduceAdd, Nat.zero_add, not_false_eq_true, not_true_eq_false]; rfl)), by omega, Q1, rfl⟩ ?_
                rintro tm hh ⟨t0, t81, t82, C, RV, i, a, t83, hi, Q2, hat⟩
                simp only [wk, wt, wl, ↓reduceIte, Nat.reduceEqDiff, Nat.reduceAdd, Nat.zero_add, not_false_eq_true, not_true_eq_false, t0, t81, t82, t83]
                refine condK_dec (fun hd => ?_) (fun hd => ?_)
                · have hi1 : i < l.length := by omega
                  have IX := RV.index underlying82 asz3 (q := .i64) (i := (i : Int)) (by omega) (by omega)
                  have LX := RV.at (i := i) (t := 3) underlying3 rfl hi1
                  simp only [Int.toNat_natCast] at IX
                  have hdr : l.drop i = l.getD i 0 :: l.drop (i + 1) := by rw [List.drop_eq_getElem_cons hi1]; congr 1; simp [List.getD, List.getElem?_eq_getElem hi1]
                  rw [hdr] at hat
                  simp only [attrL] at hat
                  generalize l.getD i 0 = x at *
                  have wi : IntKind.i64.wrap ((i : Int) + 1) = ((i + 1 : Nat) : Int) := by rw [IntWalk.i64_in _ (by omega)]; omega
                  by_cases x0 : x = 0
                  · have dx0 := decide_eq_true x0
                    obtain ⟨h3, e3, V3, C3, z3⟩ := Q2.var.store1 (P := prog) (t := 3) (v := .int .i64 0) (i := 5) (Ch.wf C) asz3 (by simp [tF]) rfl
                    have Q3 : PT h3 Fs gs t nv gr { X with attr := 0 } f cv sv rv ps Ms := Q2.own (Ch.wf C) C3 V3 rfl rfl rfl
                    rw [if_pos x0] at hat
                    simp only [wk, wt, wl, ↓reduceIte, Nat.reduceEqDiff, Nat.reduceAdd, Nat.zero_add, not_false_eq_true, not_true_eq_false, t0, t81, t82, t83, pt, IX, LX, dx0, e3, wi, intOf_int]
                    exact ⟨⟨C.thenR (Q2.dirtyT C3), Ch.rd C3 RV (fun y hy e => hvt (by rw [hy, e])), i + 1, 0, rfl, by omega, Q3, hat⟩, by omega⟩
                  · have dx0 := decide_eq_false x0
                    rw [if_neg x0] at hat
                    by_cases x7 : x = 7
                    · have dx7 := decide_eq_true x7
                      obtain ⟨h3, e3, V3, C3, z3⟩ := Q2.var.store1 (P := prog) (t := 3) (v := .int .i64 1) (i := 5) (Ch.wf C) asz3 (by simp [tF]) rfl
                      have Q3 : PT h3 Fs gs t nv gr { X with attr := 1 } f cv sv rv ps Ms := Q2.own (Ch.wf C) C3 V3 rfl rfl rfl
                      rw [if_pos x7] at hat
                      simp only [wk, wt, wl, ↓reduceIte, Nat.reduceEqDiff, Nat.reduceAdd, Nat.zero_add, not_false_eq_true, not_true_eq_false, t0, t81, t82, t83, pt, IX, LX, dx0, dx7, e3, wi, intOf_int]
                      exact ⟨⟨C.thenR (Q2.dirtyT C3), Ch.rd C3 RV (fun y hy e => hvt (by rw [hy, e])), i + 1, 1, rfl, by omega, Q3, hat⟩, by omega⟩
                    · have dx7 := decide_eq_false x7
                      rw [if_neg x7] at hat
                      simp only [wk, wt, wl, ↓reduceIte, Nat.reduceEqDiff, Nat.reduceAdd, Nat.zero_add, not_false_eq_true, not_true_eq_false, t0, t81, t82, t83, pt, IX, LX, dx0, dx7, wi, intOf_int]
                      exact ⟨⟨C, RV, i + 1, a, rfl, by omega, Q2, hat⟩, by omega⟩
                · obtain rfl : i = l.length := by omega
                  rw [List.drop_length] at hat
                  simp only [wk, wt, wl, ↓reduceIte, Nat.reduceEqDiff, Nat.reduceAdd, Nat.zero_add, not_false_eq_true, not_true_eq_false, t0, t81, t82, t83]
                  rw [hat]
                  exact ⟨⟨_, _, _, _, _, _, Q2⟩, C⟩
              · have d8 : decide (1 < (l.length : Int)) = false := decide_eq_false (by omega)
                have hm : (if 1 < l.length then imax (l.getD 1 0) 1 else 1) = 1 := if_neg hl1
                simp only [wk, wt, wl, ↓reduceIte, Nat.reduceEqDiff, Nat.reduceAdd, Nat.zero_add, not_false_eq_true, not_true_eq_false, Bool.not_true, e1, e2, f109, show (!(false == false)) = false from rfl, bool_neq, IL0, LL0, LLn, mxV, d8]
                refine adraw_order [(0, false), (1, false), (2, false), (3, false), (4, false), (5, false), (6, false), (7, false), (8, false), (9, false), (10, false), (11, false)] mixed (by kernel_rfl) (by kernel_rfl) (by kernel_rfl) (by with_reducible repeat (first | exact PF_retK | refine PF_thenK ?_ | refine PF_blockK ?_)) ?_
                simp only [wk, wt, wl, ↓reduceIte, Nat.reduceEqDiff, Nat.reduceAdd, Nat.zero_add, not_false_eq_true, not_true_eq_false, dK_t, pt, m3, m4, e1, e2, f109, LLn]
                have hvt : blkOf v ≠ some t := fun e => by have := hvz t e; have := Q.var.lt H; omega
                refine W_loop (fun tm hh => tm 0 = pt t ∧ tm 81 = v ∧ tm 82 = .int .i64 l.length ∧ Ch (Rg Fs h) h hh ∧ RdI prog hh .i64 v l ∧ ∃ (i : Nat) (a : Int), tm 83 = .int .i64 (i : Int) ∧ i ≤ l.length ∧ PT hh Fs gs t nv gr { X with attr := a } f cv sv rv ps Ms ∧ attrL X.attr l = attrL a (l.drop i))
                  (fun tm _ => (l.length - intOf (tm 83)).toNat) ⟨(by first | rfl | (simp only [wk, wt, wl, ↓reduceIte, Nat.reduceEqDiff, Nat.reduceAdd, Nat.zero_add, not_false_eq_true, not_true_eq_false]; done) | (simp only [wk, wt, wl, ↓reduceIte, Nat.reduceEqDiff, Nat.reduceAdd, Nat.zero_add, not_false_eq_true, not_true_eq_false]; rfl)), (by first | rfl | (simp only [wk, wt, wl, ↓reduceIte, Nat.reduceEqDiff, Nat.reduceAdd, Nat.zero_add, not_false_eq_true, not_true_eq_false]; done) | (simp only [wk, wt, wl, ↓reduceIte, Nat.reduceEqDiff, Nat.reduceAdd, Nat.zero_add, not_false_eq_true, not_true_eq_false]; rfl)), (by first | rfl | (simp only [wk, wt, wl, ↓reduceIte, Nat.reduceEqDiff, Nat.reduceAdd, Nat.zero_add, not_false_eq_true, not_true_eq_false]; done) | (simp only [wk, wt, wl, ↓reduceIte, Nat.reduceEqDiff, Nat.reduceAdd, Nat.zero_add, not_false_eq_true, not_true_eq_false]; rfl)), K1.rg, RL, 0, X.attr, (by first | rfl | (simp only [wk, wt, wl, ↓reduceIte, Nat.reduceEqDiff, Nat.reduceAdd, Nat.zero_add, not_false_eq_true, not_true_eq_false]; done) | (simp only [wk, wt, wl, ↓reduceIte, Nat.reduceEqDiff, Nat.reduceAdd, Nat.zero_add, not_false_eq_true, not_true_eq_false]; rfl)), by omega, Q1, rfl⟩ ?_
                rintro tm hh ⟨t0, t81, t82, C, RV, i, a, t83, hi, Q2, hat⟩
                simp only [wk, wt, wl, ↓reduceIte, Nat.reduceEqDiff, Nat.reduceAdd, Nat.zero_add, not_false_eq_true, not_true_eq_false, t0, t81, t82, t83]
                refine condK_dec (fun hd => ?_) (fun hd => ?_)
                · have hi1 : i < l.length := by omega
                  have IX := RV.index underlying82 asz3 (q := .i64) (i := (i : Int)) (by omega) (by omega)
                  have LX := RV.at (i := i) (t := 3) underlying3 rfl hi1
                  simp only [Int.toNat_natCast] at IX
                  have hdr : l.drop i = l.getD i 0 :: l.drop (i + 1) := by rw [List.drop_eq_getElem_cons hi1]; congr 1; simp [List.getD, List.getElem?_eq_getElem hi1]
                  rw [hdr] at hat
                  simp only [attrL] at hat
                  generalize l.getD i 0 = x at *
                  have wi : IntKind.i64.wrap ((i : Int) + 1) = ((i + 1 : Nat) : Int) := by rw [IntWalk.i64_in _ (by omega)]; omega
                  by_cases x0 : x = 0
                  · have dx0 := decide_eq_true x0
                    obtain ⟨h3, e3, V3, C3, z3⟩ := Q2.var.store1 (P := prog) (t := 3) (v := .int .i64 0) (i := 5) (Ch.wf C) asz3 (by simp [tF]) rfl
                    have Q3 : PT h3 Fs gs t nv gr { X with attr := 0 } f cv sv rv ps Ms := Q2.own (Ch.wf C) C3 V3 rfl rfl rfl
                    rw [if_pos x0] at hat
                    simp only [wk, wt, wl, ↓reduceIte, Nat.reduceEqDiff, Nat.reduceAdd, Nat.zero_add, not_false_eq_true, not_true_eq_false, t0, t81, t82, t83, pt, IX, LX, dx0, e3, wi, intOf_int]
                    exact ⟨⟨C.thenR (Q2.dirtyT C3), Ch.rd C3 RV (fun y hy e => hvt (by rw [hy, e])), i + 1, 0, rfl, by omega, Q3, hat⟩, by omega⟩
                  · have dx0 := decide_eq_false x0
                    rw [if_neg x0] at hat
                    by_cases x7 : x = 7
                    · have dx7 := decide_eq_true x7
                      obtain ⟨h3, e3, V3, C3, z3⟩ := Q2.var.store1 (P := prog) (t := 3) (v := .int .i64 1) (i := 5) (Ch.wf C) asz3 (by simp [tF]) rfl
                      have Q3 : PT h3 Fs gs t nv gr { X with attr := 1 } f cv sv rv ps Ms := Q2.own (Ch.wf C) C3 V3 rfl rfl rfl
                      rw [if_pos x7] at hat
                      simp only [wk, wt, wl, ↓reduceIte, Nat.reduceEqDiff, Nat.reduceAdd, Nat.zero_add, not_false_eq_true, not_true_eq_false, t0, t81, t82, t83, pt, IX, LX, dx0, dx7, e3, wi, intOf_int]
                      exact ⟨⟨C.thenR (Q2.dirtyT C3), Ch.rd C3 RV (fun y hy e => hvt (by rw [hy, e])), i + 1, 1, rfl, by omega, Q3, hat⟩, by omega⟩
                    · have dx7 := decide_eq_false x7
                      rw [if_neg x7] at hat
                      simp only [wk, wt, wl, ↓reduceIte, Nat.reduceEqDiff, Nat.reduceAdd, Nat.zero_add, not_false_eq_true, not_true_eq_false, t0, t81, t82, t83, pt, IX, LX, dx0, dx7, wi, intOf_int]
                      exact ⟨⟨C, RV, i + 1, a, rfl, by omega, Q2, hat⟩, by omega⟩
                · obtain rfl : i = l.length := by omega
                  rw [List.drop_length] at hat
                  simp only [wk, wt, wl, ↓reduceIte, Nat.reduceEqDiff, Nat.reduceAdd, Nat.zero_add, not_false_eq_true, not_true_eq_false, t0, t81, t82, t83]
                  rw [hat]
                  exact ⟨⟨_, _, _, _, _, _, Q2⟩, C⟩
            have f109 := decide_eq_false c109
            by_cases c72 : b = 72
            · have f72 := decide_eq_true c72
              have hX : doX X l b = moveX X (imax (l.getD 0 0) 1 - 1) ((if 1 < l.length then imax (l.getD 1 0) 1 else 1) - 1) := by simp only [doX]; rw [if_neg nb, if_neg c109, if_pos c72]
              rw [hX]
              have hl0 : 0 < l.length := by omega
              have IL0 := RL.index underlying82 asz3 (q := .i64) (i := (0 : Int)) (by omega) (by omega)
              have LL0 := RL.at (i := 0) (t := 3) underlying3 rfl hl0
              have LLn := RL.len underlying82
              have hbd := numsGo_bd hN (fun x hx => by cases hx) (by omega)
              have g0 := getD_bd hbd 0
              have g1 := getD_bd hbd 1
              have X0 := imax_spec (l.getD 0 0) 1
              have X1 := imax_spec (l.getD 1 0) 1
              simp only [show (0 : Int).toNat = 0 from rfl] at IL0
              by_cases hl1 : 1 < l.length
              · have d8 : decide (1 < (l.length : Int)) = true := decide_eq_true (by omega)
                have IL1 := RL.index underlying82 asz3 (q := .i64) (i := (1 : Int)) (by omega) (by omega)
                have LL1 := RL.at (i := 1) (t := 3) underlying3 rfl hl1
                simp only [show (1 : Int).toNat = 1 from rfl] at IL1
                have hm : (if 1 < l.length then imax (l.getD 1 0) 1 else 1) = imax (l.getD 1 0) 1 := if_pos hl1
                simp only [wk, wt, wl, ↓reduceIte, Nat.reduceEqDiff, Nat.reduceAdd, Nat.zero_add, not_false_eq_true, not_true_eq_false, Bool.not_true, e1, e2, f109, f72, show (!(false == false)) = false from rfl, bool_neq, IL0, LL0, LLn, mxV, d8, IL1, LL1]
                refine adraw_order [(0, false), (1, false), (2, false), (3, false), (4, false), (5, false), (6, false), (7, false), (8, false), (9, false), (10, false), (11, false)] mixed (by kernel_rfl) (by kernel_rfl) (by kernel_rfl) (by with_reducible repeat (first | exact PF_retK | refine PF_thenK ?_ | refine PF_blockK ?_)) ?_
                simp (disch := omega) only [wk, wt, wl, ↓reduceIte, Nat.reduceEqDiff, Nat.reduceAdd, Nat.zero_add, not_false_eq_true, not_true_eq_false, dK_t, pt, m3, m4, e1, e2, f109, f72, IntWalk.i64_in]
                refine (move_ok P1 I.r I.c).use ?_
                rintro _ h2 ⟨rfl, P2, C2⟩
                simp only [wk, wt, wl, ↓reduceIte, Nat.reduceEqDiff, Nat.reduceAdd, Nat.zero_add, not_false_eq_true, not_true_eq_false]
                first | exact ⟨P2, K1.rg.thenR C2⟩ | (rw [hm]; exact ⟨P2, K1.rg.thenR C2⟩)
              · have d8 : decide (1 < (l.length : Int)) = false := decide_eq_false (by omega)
                have hm : (if 1 < l.length then imax (l.getD 1 0) 1 else 1) = 1 := if_neg hl1
                simp only [wk, wt, wl, ↓reduceIte, Nat.reduceEqDiff, Nat.reduceAdd, Nat.zero_add, not_false_eq_true, not_true_eq_false, Bool.not_true, e1, e2, f109, f72, show (!(false == false)) = false from rfl, bool_neq, IL0, LL0, LLn, mxV, d8]
                refine adraw_order [(0, false), (1, false), (2, false), (3, false), (4, false), (5, false), (6, false), (7, false), (8, false), (9, false), (10, false), (11, false)] mixed (by kernel_rfl) (by kernel_rfl) (by kernel_rfl) (by with_reducible repeat (first | exact PF_retK | refine PF_thenK ?_ | refine PF_blockK ?_)) ?_
                simp (disch := omega) only [wk, wt, wl, ↓reduceIte, Nat.reduceEqDiff, Nat.reduceAdd, Nat.zero_add, not_false_eq_true, not_true_eq_false, dK_t, pt, m3, m4, e1, e2, f109, f72, IntWalk.i64_in]
                refine (move_ok P1 I.r I.c).use ?_
                rintro _ h2 ⟨rfl, P2, C2⟩
                simp only [wk, wt, wl, ↓reduceIte, Nat.reduceEqDiff, Nat.reduceAdd, Nat.zero_add, not_false_eq_true, not_true_eq_false]
                first | exact ⟨P2, K1.rg.thenR C2⟩ | (rw [hm]; exact ⟨P2, K1.rg.thenR C2⟩)
            have f72 := decide_eq_false c72
            by_cases c65 : b = 65
            · have f65 := decide_eq_true c65
              have hX : doX X l b = moveX X (X.row - imax (l.getD 0 0) 1) X.col := by simp only [doX]; rw [if_neg nb, if_neg c109, if_neg c72, if_pos c65]
              rw [hX]
              have hl0 : 0 < l.length := by omega
              have IL0 := RL.index underlying82 asz3 (q := .i64) (i := (0 : Int)) (by omega) (by omega)
              have LL0 := RL.at (i := 0) (t := 3) underlying3 rfl hl0
              have LLn := RL.len underlying82
              have hbd := numsGo_bd hN (fun x hx => by cases hx) (by omega)
              have g0 := getD_bd hbd 0
              have g1 := getD_bd hbd 1
              have X0 := imax_spec (l.getD 0 0) 1
              have X1 := imax_spec (l.getD 1 0) 1
              simp only [show (0 : Int).toNat = 0 from rfl] at IL0
              by_cases hl1 : 1 < l.length
              · have d8 : decide (1 < (l.length : Int)) = true := decide_eq_true (by omega)
                have IL1 := RL.index underlying82 asz3 (q := .i64) (i := (1 : Int)) (by omega) (by omega)
                have LL1 := RL.at (i := 1) (t := 3) underlying3 rfl hl1
                simp only [show (1 : Int).toNat = 1 from rfl] at IL1
                have hm : (if 1 < l.length then imax (l.getD 1 0) 1 else 1) = imax (l.getD 1 0) 1 := if_pos hl1
                simp only [wk, wt, wl, ↓reduceIte, Nat.reduceEqDiff, Nat.reduceAdd, Nat.zero_add, not_false_eq_true, not_true_eq_false, Bool.not_true, e1, e2, f109, f72, f65, show (!(false == false)) = false from rfl, bool_neq, IL0, LL0, LLn, mxV, d8, IL1, LL1]
                refine adraw_order [(0, false), (1, false), (2, false), (3, false), (4, false), (5, false), (6, false), (7, false), (8, false), (9, false), (10, false), (11, false)] mixed (by kernel_rfl) (by kernel_rfl) (by kernel_rfl) (by with_reducible repeat (first | exact PF_retK | refine PF_thenK ?_ | refine PF_blockK ?_)) ?_
                simp (disch := omega) only [wk, wt, wl, ↓reduceIte, Nat.reduceEqDiff, Nat.reduceAdd, Nat.zero_add, not_false_eq_true, not_true_eq_false, dK_t, pt, m3, m4, e1, e2, f109, f72, f65, IntWalk.i64_in]
                refine (move_ok P1 I.r I.c).use ?_
                rintro _ h2 ⟨rfl, P2, C2⟩
                simp only [wk, wt, wl, ↓reduceIte, Nat.reduceEqDiff, Nat.reduceAdd, Nat.zero_add, not_false_eq_true, not_true_eq_false]
                first | exact ⟨P2, K1.rg.thenR C2⟩ | (rw [hm]; exact ⟨P2, K1.rg.thenR C2⟩)
              · have d8 : decide (1 < (l.length : Int)) = false := decide_eq_false (by omega)
                have hm : (if 1 < l.length then imax (l.getD 1 0) 1 else 1) = 1 := if_neg hl1
                simp only [wk, wt, wl, ↓reduceIte, Nat.reduceEqDiff, Nat.reduceAdd, Nat.zero_add, not_false_eq_true, not_true_eq_false, Bool.not_true, e1, e2, f109, f72, f65, show (!(false == false)) = false from rfl, bool_neq, IL0, LL0, LLn, mxV, d8]
                refine adraw_order [(0, false), (1, false), (2, false), (3, false), (4, false), (5, false), (6, false), (7, false), (8, false), (9, false), (10, false), (11, false)] mixed (by kernel_rfl) (by kernel_rfl) (by kernel_rfl) (by with_reducible repeat (first | exact PF_retK | refine PF_thenK ?_ | refine PF_blockK ?_)) ?_
                simp (disch := omega) only [wk, wt, wl, ↓reduceIte, Nat.reduceEqDiff, Nat.reduceAdd, Nat.zero_add, not_false_eq_true, not_true_eq_false, dK_t, pt, m3, m4, e1, e2, f109, f72, f65, IntWalk.i64_in]
                refine (move_ok P1 I.r I.c).use ?_
                rintro _ h2 ⟨rfl, P2, C2⟩
                simp only [wk, wt, wl, ↓reduceIte, Nat.reduceEqDiff, Nat.reduceAdd, Nat.zero_add, not_false_eq_true, not_true_eq_false]
                first | exact ⟨P2, K1.rg.thenR C2⟩ | (rw [hm]; exact ⟨P2, K1.rg.thenR C2⟩)
            have f65 := decide_eq_false c65
            by_cases c66 : b = 66
            · have f66 := decide_eq_true c66
              have hX : doX X l b = moveX X (X.row + imax (l.getD 0 0) 1) X.col := by simp only [doX]; rw [if_neg nb, if_neg c109, if_neg c72, if_neg c65, if_pos c66]
              rw [hX]
              have hl0 : 0 < l.length := by omega
              have IL0 := RL.index underlying82 asz3 (q := .i64) (i := (0 : Int)) (by omega) (by omega)
              have LL0 := RL.at (i := 0) (t := 3) underlying3 rfl hl0
              have LLn := RL.len underlying82
              have hbd := numsGo_bd hN (fun x hx => by cases hx) (by omega)
              have g0 := getD_bd hbd 0
              have g1 := getD_bd hbd 1
              have X0 := imax_spec (l.getD 0 0) 1
              have X1 := imax_spec (l.getD 1 0) 1
              simp only [show (0 : Int).toNat = 0 from rfl] at IL0
              by_cases hl1 : 1 < l.length
              · have d8 : decide (1 < (l.length : Int)) = true := decide_eq_true (by omega)
                have IL1 := RL.index underlying82 asz3 (q := .i64) (i := (1 : Int)) (by omega) (by omega)
                have LL1 := RL.at (i := 1) (t := 3) underlying3 rfl hl1
                simp only [show (1 : Int).toNat = 1 from rfl] at IL1
                have hm : (if 1 < l.length then imax (l.getD 1 0) 1 else 1) = imax (l.getD 1 0) 1 := if_pos hl1
                simp only [wk, wt, wl, ↓reduceIte, Nat.reduceEqDiff, Nat.reduceAdd, Nat.zero_add, not_false_eq_true, not_true_eq_false, Bool.not_true, e1, e2, f109, f72, f65, f66, show (!(false == false)) = false from rfl, bool_neq, IL0, LL0, LLn, mxV, d8, IL1, LL1]
                refine adraw_order [(0, false), (1, false), (2, false), (3, false), (4, false), (5, false), (6, false), (7, false), (8, false), (9, false), (10, false), (11, false)] mixed (by kernel_rfl) (by kernel_rfl) (by kernel_rfl) (by with_reducible repeat (first | exact PF_retK | refine PF_thenK ?_ | refine PF_blockK ?_)) ?_
                simp (disch := omega) only [wk, wt, wl, ↓reduceIte, Nat.reduceEqDiff, Nat.reduceAdd, Nat.zero_add, not_false_eq_true, not_true_eq_false, dK_t, pt, m3, m4, e1, e2, f109, f72, f65, f66, IntWalk.i64_in]
                refine (move_ok P1 I.r I.c).use ?_
                rintro _ h2 ⟨rfl, P2, C2⟩
                simp only [wk, wt, wl, ↓reduceIte, Nat.reduceEqDiff, Nat.reduceAdd, Nat.zero_add, not_false_eq_true, not_true_eq_false]
                first | exact ⟨P2, K1.rg.thenR C2⟩ | (rw [hm]; exact ⟨P2, K1.rg.thenR C2⟩)
              · have d8 : decide (1 < (l.length : Int)) = false := decide_eq_false (by omega)
                have hm : (if 1 < l.length then imax (l.getD 1 0) 1 else 1) = 1 := if_neg hl1
                simp only [wk, wt, wl, ↓reduceIte, Nat.reduceEqDiff, Nat.reduceAdd, Nat.zero_add, not_false_eq_true, not_true_eq_false, Bool.not_true, e1, e2, f109, f72, f65, f66, show (!(false == false)) = false from rfl, bool_neq, IL0, LL0, LLn, mxV, d8]
                refine adraw_order [(0, false), (1, false), (2, false), (3, false), (4, false), (5, false), (6, false), (7, false), (8, false), (9, false), (10, false), (11, false)] mixed (by kernel_rfl) (by kernel_rfl) (by kernel_rfl) (by with_reducible repeat (first | exact PF_retK | refine PF_thenK ?_ | refine PF_blockK ?_)) ?_
                simp (disch := omega) only [wk, wt, wl, ↓reduceIte, Nat.reduceEqDiff, Nat.reduceAdd, Nat.zero_add, not_false_eq_true, not_true_eq_false, dK_t, pt, m3, m4, e1, e2, f109, f72, f65, f66, IntWalk.i64_in]
                refine (move_ok P1 I.r I.c).use ?_
                rintro _ h2 ⟨rfl, P2, C2⟩
                simp only [wk, wt, wl, ↓reduceIte, Nat.reduceEqDiff, Nat.reduceAdd, Nat.zero_add, not_false_eq_true, not_true_eq_false]
                first | exact ⟨P2, K1.rg.thenR C2⟩ | (rw [hm]; exact ⟨P2, K1.rg.thenR C2⟩)
            have f66 := decide_eq_false c66
            by_cases c67 : b = 67
            · have f67 := decide_eq_true c67
              have hX : doX X l b = moveX X X.row (X.col + imax (l.getD 0 0) 1) := by simp only [doX]; rw [if_neg nb, if_neg c109, if_neg c72, if_neg c65, if_neg c66, if_pos c67]
              rw [hX]
              have hl0 : 0 < l.length := by omega
              have IL0 := RL.index underlying82 asz3 (q := .i64) (i := (0 : Int)) (by omega) (by omega)
              have LL0 := RL.at (i := 0) (t := 3) underlying3 rfl hl0
              have LLn := RL.len underlying82
              have hbd := numsGo_bd hN (fun x hx => by cases hx) (by omega)
              have g0 := getD_bd hbd 0
              have g1 := getD_bd hbd 1
              have X0 := imax_spec (l.getD 0 0) 1
              have X1 := imax_spec (l.getD 1 0) 1
              simp only [show (0 : Int).toNat = 0 from rfl] at IL0
              by_cases hl1 : 1 < l.length
              · have d8 : decide (1 < (l.length : Int)) = true := decide_eq_true (by omega)
                have IL1 := RL.index underlying82 asz3 (q := .i64) (i := (1 : Int)) (by omega) (by omega)
                have LL1 := RL.at (i := 1) (t := 3) underlying3 rfl hl1
                simp only [show (1 : Int).toNat = 1 from rfl] at IL1
                have hm : (if 1 < l.length then imax (l.getD 1 0) 1 else 1) = imax (l.getD 1 0) 1 := if_pos hl1
                simp only [wk, wt, wl, ↓reduceIte, Nat.reduceEqDiff, Nat.reduceAdd, Nat.zero_add, not_false_eq_true, not_true_eq_false, Bool.not_true, e1, e2, f109, f72, f65, f66, f67, show (!(false == false)) = false from rfl, bool_neq, IL0, LL0, LLn, mxV, d8, IL1, LL1]
                refine adraw_order [(0, false), (1, false), (2, false), (3, false), (4, false), (5, false), (6, false), (7, false), (8, false), (9, false), (10, false), (11, false)] mixed (by kernel_rfl) (by kernel_rfl) (by kernel_rfl) (by with_reducible repeat (first | exact PF_retK | refine PF_thenK ?_ | refine PF_blockK ?_)) ?_
                simp (disch := omega) only [wk, wt, wl, ↓reduceIte, Nat.reduceEqDiff, Nat.reduceAdd, Nat.zero_add, not_false_eq_true, not_true_eq_false, dK_t, pt, m3, m4, e1, e2, f109, f72, f65, f66, f67, IntWalk.i64_in]
                refine (move_ok P1 I.r I.c).use ?_
                rintro _ h2 ⟨rfl, P2, C2⟩
                simp only [wk, wt, wl, ↓reduceIte, Nat.reduceEqDiff, Nat.reduceAdd, Nat.zero_add, not_false_eq_true, not_true_eq_false]
                first | exact ⟨P2, K1.rg.thenR C2⟩ | (rw [hm]; exact ⟨P2, K1.rg.thenR C2⟩)
              · have d8 : decide (1 < (l.length : Int)) = false := decide_eq_false (by omega)
                have hm : (if 1 < l.length then imax (l.getD 1 0) 1 else 1) = 1 := if_neg hl1
                simp only [wk, wt, wl, ↓reduceIte, Nat.reduceEqDiff, Nat.reduceAdd, Nat.zero_add, not_false_eq_true, not_true_eq_false, Bool.not_true, e1, e2, f109, f72, f65, f66, f67, show (!(false == false)) = false from rfl, bool_neq, IL0, LL0, LLn, mxV, d8]
                refine adraw_order [(0, false), (1, false), (2, false), (3, false), (4, false), (5, false), (6, false), (7, false), (8, false), (9, false), (10, false), (11, false)] mixed (by kernel_rfl) (by kernel_rfl) (by kernel_rfl) (by with_reducible repeat (first | exact PF_retK | refine PF_thenK ?_ | refine PF_blockK ?_)) ?_
                simp (disch := omega) only [wk, wt, wl, ↓reduceIte, Nat.reduceEqDiff, Nat.reduceAdd, Nat.zero_add, not_false_eq_true, not_true_eq_false, dK_t, pt, m3, m4, e1, e2, f109, f72, f65, f66, f67, IntWalk.i64_in]
                refine (move_ok P1 I.r I.c).use ?_
                rintro _ h2 ⟨rfl, P2, C2⟩
                simp only [wk, wt, wl, ↓reduceIte, Nat.reduceEqDiff, Nat.reduceAdd, Nat.zero_add, not_false_eq_true, not_true_eq_false]
                first | exact ⟨P2, K1.rg.thenR C2⟩ | (rw [hm]; exact ⟨P2, K1.rg.thenR C2⟩)
            have f67 := decide_eq_false c67
            by_cases c68 : b = 68
            · have f68 := decide_eq_true c68
              have hX : doX X l b = moveX X X.row (X.col - imax (l.getD 0 0) 1) := by simp only [doX]; rw [if_neg nb, if_neg c109, if_neg c72, if_neg c65, if_neg c66, if_neg c67, if_pos c68]
              rw [hX]
              have hl0 : 0 < l.length := by omega
              have IL0 := RL.index underlying82 asz3 (q := .i64) (i := (0 : Int)) (by omega) (by omega)
              have LL0 := RL.at (i := 0) (t := 3) underlying3 rfl hl0
              have LLn := RL.len underlying82
              have hbd := numsGo_bd hN (fun x hx => by cases hx) (by omega)
              have g0 := getD_bd hbd 0
              have g1 := getD_bd hbd 1
              have X0 := imax_spec (l.getD 0 0) 1
              have X1 := imax_spec (l.getD 1 0) 1
              simp only [show (0 : Int).toNat = 0 from rfl] at IL0
              by_cases hl1 : 1 < l.length
              · have d8 : decide (1 < (l.length : Int)) = true := decide_eq_true (by omega)
                have IL1 := RL.index underlying82 asz3 (q := .i64) (i := (1 : Int)) (by omega) (by omega)
                have LL1 := RL.at (i := 1) (t := 3) underlying3 rfl hl1
                simp only [show (1 : Int).toNat = 1 from rfl] at IL1
                have hm : (if 1 < l.length then imax (l.getD 1 0) 1 else 1) = imax (l.getD 1 0) 1 := if_pos hl1
                simp only [wk, wt, wl, ↓reduceIte, Nat.reduceEqDiff, Nat.reduceAdd, Nat.zero_add, not_false_eq_true, not_true_eq_false, Bool.not_true, e1, e2, f109, f72, f65, f66, f67, f68, show (!(false == false)) = false from rfl, bool_neq, IL0, LL0, LLn, mxV, d8, IL1, LL1]
                refine adraw_order [(0, false), (1, false), (2, false), (3, false), (4, false), (5, false), (6, false), (7, false), (8, false), (9, false), (10, false), (11, false)] mixed (by kernel_rfl) (by kernel_rfl) (by kernel_rfl) (by with_reducible repeat (first | exact PF_retK | refine PF_thenK ?_ | refine PF_blockK ?_)) ?_
                simp (disch := omega) only [wk, wt, wl, ↓reduceIte, Nat.reduceEqDiff, Nat.reduceAdd, Nat.zero_add, not_false_eq_true, not_true_eq_false, dK_t, pt, m3, m4, e1, e2, f109, f72, f65, f66, f67, f68, IntWalk.i64_in]
                refine (move_ok P1 I.r I.c).use ?_
                rintro _ h2 ⟨rfl, P2, C2⟩
                simp only [wk, wt, wl, ↓reduceIte, Nat.reduceEqDiff, Nat.reduceAdd, Nat.zero_add, not_false_eq_true, not_true_eq_false]
                first | exact ⟨P2, K1.rg.thenR C2⟩ | (rw [hm]; exact ⟨P2, K1.rg.thenR C2⟩)
              · have d8 : decide (1 < (l.length : Int)) = false := decide_eq_false (by omega)
                have hm : (if 1 < l.length then imax (l.getD 1 0) 1 else 1) = 1 := if_neg hl1
                simp only [wk, wt, wl, ↓reduceIte, Nat.reduceEqDiff, Nat.reduceAdd, Nat.zero_add, not_false_eq_true, not_true_eq_false, Bool.not_true, e1, e2, f109, f72, f65, f66, f67, f68, show (!(false == false)) = false from rfl, bool_neq, IL0, LL0, LLn, mxV, d8]
                refine adraw_order [(0, false), (1, false), (2, false), (3, false), (4, false), (5, false), (6, false), (7, false), (8, false), (9, false), (10, false), (11, false)] mixed (by kernel_rfl) (by kernel_rfl) (by kernel_rfl) (by with_reducible repeat (first | exact PF_retK | refine PF_thenK ?_ | refine PF_blockK ?_)) ?_
                simp (disch := omega) only [wk, wt, wl, ↓reduceIte, Nat.reduceEqDiff, Nat.reduceAdd, Nat.zero_add, not_false_eq_true, not_true_eq_false, dK_t, pt, m3, m4, e1, e2, f109, f72, f65, f66, f67, f68, IntWalk.i64_in]
                refine (move_ok P1 I.r I.c).use ?_
                rintro _ h2 ⟨rfl, P2, C2⟩
                simp only [wk, wt, wl, ↓reduceIte, Nat.reduceEqDiff, Nat.reduceAdd, Nat.zero_add, not_false_eq_true, not_true_eq_false]
                first | exact ⟨P2, K1.rg.thenR C2⟩ | (rw [hm]; exact ⟨P2, K1.rg.thenR C2⟩)
            have f68 := decide_eq_false c68
            by_cases c71 : b = 71
            · have f71 := decide_eq_true c71
              have hX : doX X l b = moveX X X.row (imax (l.getD 0 0) 1 - 1) := by simp only [doX]; rw [if_neg nb, if_neg c109, if_neg c72, if_neg c65, if_neg c66, if_neg c67, if_neg c68, if_pos c71]
              rw [hX]
              have hl0 : 0 < l.length := by omega
              have IL0 := RL.index underlying82 asz3 (q := .i64) (i := (0 : Int)) (by omega) (by omega)
              have LL0 := RL.at (i := 0) (t := 3) underlying3 rfl hl0
              have LLn := RL.len underlying82
              have hbd := numsGo_bd hN (fun x hx => by cases hx) (by omega)
              have g0 := getD_bd hbd 0
              have g1 := getD_bd hbd 1
              have X0 := imax_spec (l.getD 0 0) 1
              have X1 := imax_spec (l.getD 1 0) 1
              simp only [show (0 : Int).toNat = 0 from rfl] at IL0
              by_cases hl1 : 1 < l.length
              · have d8 : decide (1 < (l.length : Int)) = true := decide_eq_true (by omega)
                have IL1 := RL.index underlying82 asz3 (q := .i64) (i := (1 : Int)) (by omega) (by omega)
                have LL1 := RL.at (i := 1) (t := 3) underlying3 rfl hl1
                simp only [show (1 : Int).toNat = 1 from rfl] at IL1
                have hm : (if 1 < l.length then imax (l.getD 1 0) 1 else 1) = imax (l.getD 1 0) 1 := if_pos hl1
                simp only [wk, wt, wl, ↓reduceIte, Nat.reduceEqDiff, Nat.reduceAdd, Nat.zero_add, not_false_eq_true, not_true_eq_false, Bool.not_true, e1, e2, f109, f72, f65, f66, f67, f68, f71, show (!(false == false)) = false from rfl, bool_neq, IL0, LL0, LLn, mxV, d8, IL1, LL1]
                refine adraw_order [(0, false), (1, false), (2, false), (3, false), (4, false), (5, false), (6, false), (7, false), (8, false), (9, false), (10, false), (11, false)] mixed (by kernel_rfl) (by kernel_rfl) (by kernel_rfl) (by with_reducible repeat (first | exact PF_retK | refine PF_thenK ?_ | refine PF_blockK ?_)) ?_
                simp (disch := omega) only [wk, wt, wl, ↓reduceIte, Nat.reduceEqDiff, Nat.reduceAdd, Nat.zero_add, not_false_eq_true, not_true_eq_false, dK_t, pt, m3, m4, e1, e2, f109, f72, f65, f66, f67, f68, f71, IntWalk.i64_in]
                refine (move_ok P1 I.r I.c).use ?_
                rintro _ h2 ⟨rfl, P2, C2⟩
                simp only [wk, wt, wl, ↓reduceIte, Nat.reduceEqDiff, Nat.reduceAdd, Nat.zero_add, not_false_eq_true, not_true_eq_false]
                first | exact ⟨P2, K1.rg.thenR C2⟩ | (rw [hm]; exact ⟨P2, K1.rg.thenR C2⟩)
              · have d8 : decide (1 < (l.length : Int)) = false := decide_eq_false (by omega)
                have hm : (if 1 < l.length then imax (l.getD 1 0) 1 else 1) = 1 := if_neg hl1
                simp only [wk, wt, wl, ↓reduceIte, Nat.reduceEqDiff, Nat.reduceAdd, Nat.zero_add, not_false_eq_true, not_true_eq_false, Bool.not_true, e1, e2, f109, f72, f65, f66, f67, f68, f71, show (!(false == false)) = false from rfl, bool_neq, IL0, LL0, LLn, mxV, d8]
                refine adraw_order [(0, false), (1, false), (2, false), (3, false), (4, false), (5, false), (6, false), (7, false), (8, false), (9, false), (10, false), (11, false)] mixed (by kernel_rfl) (by kernel_rfl) (by kernel_rfl) (by with_reducible repeat (first | exact PF_retK | refine PF_thenK ?_ | refine PF_blockK ?_)) ?_
                simp (disch := omega) only [wk, wt, wl, ↓reduceIte, Nat.reduceEqDiff, Nat.reduceAdd, Nat.zero_add, not_false_eq_true, not_true_eq_false, dK_t, pt, m3, m4, e1, e2, f109, f72, f65, f66, f67, f68, f71, IntWalk.i64_in]
                refine (move_ok P1 I.r I.c).use ?_
                rintro _ h2 ⟨rfl, P2, C2⟩
                simp only [wk, wt, wl, ↓reduceIte, Nat.reduceEqDiff, Nat.reduceAdd, Nat.zero_add, not_false_eq_true, not_true_eq_false]
                first | exact ⟨P2, K1.rg.thenR C2⟩ | (rw [hm]; exact ⟨P2, K1.rg.thenR C2⟩)
            have f71 := decide_eq_false c71
            by_cases c74 : b = 74
            · have f74 := decide_eq_true c74
              have hX : doX X l b = eraseX X (l.getD 0 0) 0 X.cells.length := by simp only [doX]; rw [if_neg nb, if_neg c109, if_neg c72, if_neg c65, if_neg c66, if_neg c67, if_neg c68, if_neg c71, if_pos c74]
              rw [hX]
              have hl0 : 0 < l.length := by omega
              have IL0 := RL.index underlying82 asz3 (q := .i64) (i := (0 : Int)) (by omega) (by omega)
              have LL0 := RL.at (i := 0) (t := 3) underlying3 rfl hl0
              have LLn := RL.len underlying82
              have hbd := numsGo_bd hN (fun x hx => by cases hx) (by omega)
              have g0 := getD_bd hbd 0
              have g1 := getD_bd hbd 1
              have X0 := imax_spec (l.getD 0 0) 1
              have X1 := imax_spec (l.getD 1 0) 1
              simp only [show (0 : Int).toNat = 0 from rfl] at IL0
              by_cases hl1 : 1 < l.length
              · have d8 : decide (1 < (l.length : Int)) = true := decide_eq_true (by omega)
                have IL1 := RL.index underlying82 asz3 (q := .i64) (i := (1 : Int)) (by omega) (by omega)
                have LL1 := RL.at (i := 1) (t := 3) underlying3 rfl hl1
                simp only [show (1 : Int).toNat = 1 from rfl] at IL1
                have hm : (if 1 < l.length then imax (l.getD 1 0) 1 else 1) = imax (l.getD 1 0) 1 := if_pos hl1
                simp only [wk, wt, wl, ↓reduceIte, Nat.reduceEqDiff, Nat.reduceAdd, Nat.zero_add, not_false_eq_true, not_true_eq_false, Bool.not_true, e1, e2, f109, f72, f65, f66, f67, f68, f71, f74, show (!(false == false)) = false from rfl, bool_neq, IL0, LL0, LLn, mxV, d8, IL1, LL1]
                refine adraw_order [(0, false), (1, false), (2, false), (3, false), (4, false), (5, false), (6, false), (7, false), (8, false), (9, false), (10, false), (11, false)] mixed (by kernel_rfl) (by kernel_rfl) (by kernel_rfl) (by with_reducible repeat (first | exact PF_retK | refine PF_thenK ?_ | refine PF_blockK ?_)) ?_
                simp only [wk, wt, wl, ↓reduceIte, Nat.reduceEqDiff, Nat.reduceAdd, Nat.zero_add, not_false_eq_true, not_true_eq_false, dK_t, pt, m3, m4, e1, e2, f109, f72, f65, f66, f67, f68, f71, f74]
                refine adraw_order [(0, false), (1, false), (2, false), (3, false), (4, false), (5, false), (6, false), (7, false), (8, false), (9, false), (10, false)] mixed (by kernel_rfl) (by kernel_rfl) (by kernel_rfl) (by with_reducible repeat (first | exact PF_retK | refine PF_thenK ?_ | refine PF_blockK ?_)) ?_
                simp only [wk, wt, wl, ↓reduceIte, Nat.reduceEqDiff, Nat.reduceAdd, Nat.zero_add, not_false_eq_true, not_true_eq_false, dK_t, pt, IL0, LL0, m2, Q1.gp.len]
                refine (erase_ok (q := l.getD 0 0) (F := 0) (T := X.cells.length) P1 I (Nat.le_refl _)).use ?_
                rintro _ h2 ⟨rfl, P2, C2⟩
                simp only [wk, wt, wl, ↓reduceIte, Nat.reduceEqDiff, Nat.reduceAdd, Nat.zero_add, not_false_eq_true, not_true_eq_false]
                exact ⟨P2, K1.rg.thenR C2⟩
              · have d8 : decide (1 < (l.length : Int)) = false := decide_eq_false (by omega)
                have hm : (if 1 < l.length then imax (l.getD 1 0) 1 else 1) = 1 := if_neg hl1
                simp only [wk, wt, wl, ↓reduceIte, Nat.reduceEqDiff, Nat.reduceAdd, Nat.zero_add, not_false_eq_true, not_true_eq_false, Bool.not_true, e1, e2, f109, f72, f65, f66, f67, f68, f71, f74, show (!(false == false)) = false from rfl, bool_neq, IL0, LL0, LLn, mxV, d8]
                refine adraw_order [(0, false), (1, false), (2, false), (3, false), (4, false), (5, false), (6, false), (7, false), (8, false), (9, false), (10, false), (11, false)] mixed (by kernel_rfl) (by kernel_rfl) (by kernel_rfl) (by with_reducible repeat (first | exact PF_retK | refine PF_thenK ?_ | refine PF_blockK ?_)) ?_
                simp only [wk, wt, wl, ↓reduceIte, Nat.reduceEqDiff, Nat.reduceAdd, Nat.zero_add, not_false_eq_true, not_true_eq_false, dK_t, pt, m3, m4, e1, e2, f109, f72, f65, f66, f67, f68, f71, f74]
                refine adraw_order [(0, false), (1, false), (2, false), (3, false), (4, false), (5, false), (6, false), (7, false), (8, false), (9, false), (10, false)] mixed (by kernel_rfl) (by kernel_rfl) (by kernel_rfl) (by with_reducible repeat (first | exact PF_retK | refine PF_thenK ?_ | refine PF_blockK ?_)) ?_
                simp only [wk, wt, wl, ↓reduceIte, Nat.reduceEqDiff, Nat.reduceAdd, Nat.zero_add, not_false_eq_true, not_true_eq_false, dK_t, pt, IL0, LL0, m2, Q1.gp.len]
                refine (erase_ok (q := l.getD 0 0) (F := 0) (T := X.cells.length) P1 I (Nat.le_refl _)).use ?_
                rintro _ h2 ⟨rfl, P2, C2⟩
                simp only [wk, wt, wl, ↓reduceIte, Nat.reduceEqDiff, Nat.reduceAdd, Nat.zero_add, not_false_eq_true, not_true_eq_false]
                exact ⟨P2, K1.rg.thenR C2⟩
            have f74 := decide_eq_false c74
            by_cases c75 : b = 75
            · have f75 := decide_eq_true c75
              have hX : doX X l b = eraseX X (l.getD 0 0) (X.row * X.cols) ((X.row + 1) * X.cols) := by simp only [doX]; rw [if_neg nb, if_neg c109, if_neg c72, if_neg c65, if_neg c66, if_neg c67, if_neg c68, if_neg c71, if_neg c74, if_pos c75]
              rw [hX]
              have hl0 : 0 < l.length := by omega
              have IL0 := RL.index underlying82 asz3 (q := .i64) (i := (0 : Int)) (by omega) (by omega)
              have LL0 := RL.at (i := 0) (t := 3) underlying3 rfl hl0
              have LLn := RL.len underlying82
              have hbd := numsGo_bd hN (fun x hx => by cases hx) (by omega)
              have g0 := getD_bd hbd 0
              have g1 := getD_bd hbd 1
              have X0 := imax_spec (l.getD 0 0) 1
              have X1 := imax_spec (l.getD 1 0) 1
              simp only [show (0 : Int).toNat = 0 from rfl] at IL0
              by_cases hl1 : 1 < l.length
              · have d8 : decide (1 < (l.length : Int)) = true := decide_eq_true (by omega)
                have IL1 := RL.index underlying82 asz3 (q := .i64) (i := (1 : Int)) (by omega) (by omega)
                have LL1 := RL.at (i := 1) (t := 3) underlying3 rfl hl1
                simp only [show (1 : Int).toNat = 1 from rfl] at IL1
                have hm : (if 1 < l.length then imax (l.getD 1 0) 1 else 1) = imax (l.getD 1 0) 1 := if_pos hl1
                simp only [wk, wt, wl, ↓reduceIte, Nat.reduceEqDiff, Nat.reduceAdd, Nat.zero_add, not_false_eq_true, not_true_eq_false, Bool.not_true, e1, e2, f109, f72, f65, f66, f67, f68, f71, f74, f75, show (!(false == false)) = false from rfl, bool_neq, IL0, LL0, LLn, mxV, d8, IL1, LL1]
                refine adraw_order [(0, false), (1, false), (2, false), (3, false), (4, false), (5, false), (6, false), (7, false), (8, false), (9, false), (10, false), (11, false)] mixed (by kernel_rfl) (by kernel_rfl) (by kernel_rfl) (by with_reducible repeat (first | exact PF_retK | refine PF_thenK ?_ | refine PF_blockK ?_)) ?_
                obtain ⟨A, hA, hAl, hlenC, _⟩ := I.rowA
                obtain ⟨cc, hcc2⟩ : ∃ c : Nat, X.cols = (c : Int) := ⟨X.cols.toNat, by omega⟩
                have wr : IntKind.i64.wrap (X.row + 1) = X.row + 1 := IntWalk.i64_in _ (by omega)
                have hA2 : (X.row + 1) * X.cols = ((A + cc : Nat) : Int) := by rw [Int.add_mul, Int.one_mul, hA]; omega
                have w1 : IntKind.i64.wrap (X.row * X.cols) = (A : Int) := by rw [hA]; exact IntWalk.i64_in _ (by omega)
                have w2 : IntKind.i64.wrap ((X.row + 1) * X.cols) = ((A + cc : Nat) : Int) := by rw [hA2]; exact IntWalk.i64_in _ (by omega)
                simp only [wk, wt, wl, ↓reduceIte, Nat.reduceEqDiff, Nat.reduceAdd, Nat.zero_add, not_false_eq_true, not_true_eq_false, dK_t, pt, m3, m4, e1, e2, f109, f72, f65, f66, f67, f68, f71, f74, f75]
                refine adraw_order [(0, false), (1, false), (2, false), (3, false), (4, false), (5, false), (6, false), (7, false), (8, false), (9, false), (10, false), (11, false), (12, false), (13, false), (14, false), (15, false), (16, false), (17, false), (18, false), (19, false)] mixed (by kernel_rfl) (by kernel_rfl) (by kernel_rfl) (by with_reducible repeat (first | exact PF_retK | refine PF_thenK ?_ | refine PF_blockK ?_)) ?_
                simp only [wk, wt, wl, ↓reduceIte, Nat.reduceEqDiff, Nat.reduceAdd, Nat.zero_add, not_false_eq_true, not_true_eq_false, dK_t, pt, IL0, LL0, m1, wr, w1, w2]
                refine (erase_ok (q := l.getD 0 0) (F := A) (T := A + cc) P1 I (by omega)).use ?_
                rintro _ h2 ⟨rfl, P2, C2⟩
                simp only [wk, wt, wl, ↓reduceIte, Nat.reduceEqDiff, Nat.reduceAdd, Nat.zero_add, not_false_eq_true, not_true_eq_false]
                rw [hA, hA2]
                exact ⟨P2, K1.rg.thenR C2⟩
              · have d8 : decide (1 < (l.length : Int)) = false := decide_eq_false (by omega)
                have hm : (if 1 < l.length then imax (l.getD 1 0) 1 else 1) = 1 := if_neg hl1
                simp only [wk, wt, wl, ↓reduceIte, Nat.reduceEqDiff, Nat.reduceAdd, Nat.zero_add, not_false_eq_true, not_true_eq_false, Bool.not_true, e1, e2, f109, f72, f65, f66, f67, f68, f71, f74, f75, show (!(false == false)) = false from rfl, bool_neq, IL0, LL0, LLn, mxV, d8]
                refine adraw_order [(0, false), (1, false), (2, false), (3, false), (4, false), (5, false), (6, false), (7, false), (8, false), (9, false), (10, false), (11, false)] mixed (by kernel_rfl) (by kernel_rfl) (by kernel_rfl) (by with_reducible repeat (first | exact PF_retK | refine PF_thenK ?_ | refine PF_blockK ?_)) ?_
                obtain ⟨A, hA, hAl, hlenC, _⟩ := I.rowA
                obtain ⟨cc, hcc2⟩ : ∃ c : Nat, X.cols = (c : Int) := ⟨X.cols.toNat, by omega⟩
                have wr : IntKind.i64.wrap (X.row + 1) = X.row + 1 := IntWalk.i64_in _ (by omega)
                have hA2 : (X.row + 1) * X.cols = ((A + cc : Nat) : Int) := by rw [Int.add_mul, Int.one_mul, hA]; omega
                have w1 : IntKind.i64.wrap (X.row * X.cols) = (A : Int) := by rw [hA]; exact IntWalk.i64_in _ (by omega)
                have w2 : IntKind.i64.wrap ((X.row + 1) * X.cols) = ((A + cc : Nat) : Int) := by rw [hA2]; exact IntWalk.i64_in _ (by omega)
                simp only [wk, wt, wl, ↓reduceIte, Nat.reduceEqDiff, Nat.reduceAdd, Nat.zero_add, not_false_eq_true, not_true_eq_false, dK_t, pt, m3, m4, e1, e2, f109, f72, f65, f66, f67, f68, f71, f74, f75]
                refine adraw_order [(0, false), (1, false), (2, false), (3, false), (4, false), (5, false), (6, false), (7, false), (8, false), (9, false), (10, false), (11, false), (12, false), (13, false), (14, false), (15, false), (16, false), (17, false), (18, false), (19, false)] mixed (by kernel_rfl) (by kernel_rfl) (by kernel_rfl) (by with_reducible repeat (first | exact PF_retK | refine PF_thenK ?_ | refine PF_blockK ?_)) ?_
                simp only [wk, wt, wl, ↓reduceIte, Nat.reduceEqDiff, Nat.reduceAdd, Nat.zero_add, not_false_eq_true, not_true_eq_false, dK_t, pt, IL0, LL0, m1, wr, w1, w2]
                refine (erase_ok (q := l.getD 0 0) (F := A) (T := A + cc) P1 I (by omega)).use ?_
                rintro _ h2 ⟨rfl, P2, C2⟩
                simp only [wk, wt, wl, ↓reduceIte, Nat.reduceEqDiff, Nat.reduceAdd, Nat.zero_add, not_false_eq_true, not_true_eq_false]
                rw [hA, hA2]
                exact ⟨P2, K1.rg.thenR C2⟩
            have f75 := decide_eq_false c75
            have hX : doX X l b = X := by simp only [doX]; rw [if_neg nb, if_neg c109, if_neg c72, if_neg c65, if_neg c66, if_neg c67, if_neg c68, if_neg c71, if_neg c74, if_neg c75]
            rw [hX]
            have hl0 : 0 < l.length := by omega
            have IL0 := RL.index underlying82 asz3 (q := .i64) (i := (0 : Int)) (by omega) (by omega)
            have LL0 := RL.at (i := 0) (t := 3) underlying3 rfl hl0
            have LLn := RL.len underlying82
            have hbd := numsGo_bd hN (fun x hx => by cases hx) (by omega)
            have g0 := getD_bd hbd 0
            have g1 := getD_bd hbd 1
            have X0 := imax_spec (l.getD 0 0) 1
            have X1 := imax_spec (l.getD 1 0) 1
            simp only [show (0 : Int).toNat = 0 from rfl] at IL0
            by_cases hl1 : 1 < l.length
            · have d8 : decide (1 < (l.length : Int)) = true := decide_eq_true (by omega)
              have IL1 := RL.index underlying82 asz3 (q := .i64) (i := (1 : Int)) (by omega) (by omega)
              have LL1 := RL.at (i := 1) (t := 3) underlying3 rfl hl1
              simp only [show (1 : Int).toNat = 1 from rfl] at IL1
              have hm : (if 1 < l.length then imax (l.getD 1 0) 1 else 1) = imax (l.getD 1 0) 1 := if_pos hl1
              simp only [wk, wt, wl, ↓reduceIte, Nat.reduceEqDiff, Nat.reduceAdd, Nat.zero_add, not_false_eq_true, not_true_eq_false, Bool.not_true, e1, e2, f109, f72, f65, f66, f67, f68, f71, f74, f75, show (!(false == false)) = false from rfl, bool_neq, IL0, LL0, LLn, mxV, d8, IL1, LL1]
              refine adraw_order [(0, false), (1, false), (2, false), (3, false), (4, false), (5, false), (6, false), (7, false), (8, false), (9, false), (10, false), (11, false)] mixed (by kernel_rfl) (by kernel_rfl) (by kernel_rfl) (by with_reducible repeat (first | exact PF_retK | refine PF_thenK ?_ | refine PF_blockK ?_)) ?_
              simp only [wk, wt, wl, ↓reduceIte, Nat.reduceEqDiff, Nat.reduceAdd, Nat.zero_add, not_false_eq_true, not_true_eq_false, dK_t, pt, m3, m4, e1, e2, f109, f72, f65, f66, f67, f68, f71, f74, f75]
              exact fin
            · have d8 : decide (1 < (l.length : Int)) = false := decide_eq_false (by omega)
              have hm : (if 1 < l.length then imax (l.getD 1 0) 1 else 1) = 1 := if_neg hl1
              simp only [wk, wt, wl, ↓reduceIte, Nat.reduceEqDiff, Nat.reduceAdd, Nat.zero_add, not_false_eq_true, not_true_eq_false, Bool.not_true, e1, e2, f109, f72, f65, f66, f67, f68, f71, f74, f75, show (!(false == false)) = false from rfl, bool_neq, IL0, LL0, LLn, mxV, d8]
              refine adraw_order [(0, false), (1, false), (2, false), (3, false), (4, false), (5, false), (6, false), (7, false), (8, false), (9, false), (10, false), (11, false)] mixed (by kernel_rfl) (by kernel_rfl) (by kernel_rfl) (by with_reducible repeat (first | exact PF_retK | refine PF_thenK ?_ | refine PF_blockK ?_)) ?_
              simp only [wk, wt, wl, ↓reduceIte, Nat.reduceEqDiff, Nat.reduceAdd, Nat.zero_add, not_false_eq_true, not_true_eq_false, dK_t, pt, m3, m4, e1, e2, f109, f72, f65, f66, f67, f68, f71, f74, f75]
              exact fin
    | cons x r =>
      have IX := RS.index underlying29 asz5 (q := .i64) (i := (0 : Int)) (by omega) (by rw [hs]; simp)
      have LX := RS.at (i := 0) (t := 5) underlying5 rfl (by rw [hs]; simp)
      have hx0 : X.seq.getD 0 0 = x := by rw [hs]; rfl
      rw [hx0] at LX
      simp only [show (0 : Int).toNat = 0 from rfl] at IX
      have d1 : decide (0 < (X.seq.length : Int)) = true := decide_eq_true (by rw [hs]; simp)
      have hx63 : x ≠ 63 := fun e => by simp [asksB, hs, e] at ha
      have d2 : decide (x = 63) = false := decide_eq_false hx63
      rw [← hs]
      simp only [wk, wt, wl, ↓reduceIte, Nat.reduceEqDiff, Nat.reduceAdd, Nat.zero_add, not_false_eq_true, not_true_eq_false, pt, l11, LS, IX, LX, d1, d2]
      refine (numbers_ok (b := X.seq) RB hbB hbl).use ?_
      rintro y h1 ⟨hy, K1⟩
      have Q1 := Q.keeps H K1
      obtain ⟨m0, m1, m2, m3, m4, m5, m6, m7, m8, m9, m10, m11⟩ := Q1.load
      have P1 : PM h1 Fs gs t nv gr X := ⟨_, _, _, _, _, _, Q1⟩
      have fin : PM h1 Fs gs t nv gr X ∧ Ch (Rg Fs h) h h1 := ⟨P1, K1.rg⟩
      cases hN : numsGo [] 0 (X.seq) with
      | none =>
        rw [hN] at hy
        obtain rfl : y = .tuple #[.slice none 0 0, .bool false] := hy
        rw [seqX_none (by rw [hsel]; exact hN)]
        simp only [wk, wt, wl, ↓reduceIte, Nat.reduceEqDiff, Nat.reduceAdd, Nat.zero_add, not_false_eq_true, not_true_eq_false, Bool.not_false]
        exact fin
      | some l =>
        rw [hN] at hy
        obtain ⟨v, rfl, RL, hvz⟩ := hy
        rw [seqX_some (l := l) (by rw [hsel]; exact hN), ha]
        have hlen := numsGo_len hN
        simp only [List.length_nil, Nat.zero_add] at hlen
        by_cases b1 : b = 104
        · have e1 := decide_eq_true b1
          have e3 : decide (b = 104 ∨ b = 108) = true := decide_eq_true (.inl b1)
          rw [e3, if_neg (by decide)]
          simp only [wk, wt, wl, ↓reduceIte, Nat.reduceEqDiff, Nat.reduceAdd, Nat.zero_add, not_false_eq_true, not_true_eq_false, Bool.not_true, e1, bool_neq, show (!(false == true)) = true from rfl]
          exact fin
        · have e1 := decide_eq_false b1
          by_cases b2 : b = 108
          · have e2 := decide_eq_true b2
            have e3 : decide (b = 104 ∨ b = 108) = true := decide_eq_true (.inr b2)
            rw [e3, if_neg (by decide)]
            simp only [wk, wt, wl, ↓reduceIte, Nat.reduceEqDiff, Nat.reduceAdd, Nat.zero_add, not_false_eq_true, not_true_eq_false, Bool.not_true, e1, e2, bool_neq, show (!(false == true)) = true from rfl]
            exact fin
          · have e2 := decide_eq_false b2
            have e3 : decide (b = 104 ∨ b = 108) = false := decide_eq_false fun e => e.elim b1 b2
            have hrow := I.row
            have hcol := I.col
            have hrr := I.r
            have hcc := I.c
            rw [e3, if_pos rfl]
            have nb : ¬ (b = 104 ∨ b = 108) := fun e => e.elim b1 b2
            by_cases c109 : b = 109
            · have f109 := decide_eq_true c109
              have hX : doX X l b = { X with attr := attrL X.attr l } := by simp only [doX]; rw [if_neg nb, if_pos c109]
              rw [hX]
              have hl0 : 0 < l.length := by omega
              have IL0 := RL.index underlying82 asz3 (q := .i64) (i := (0 : Int)) (by omega) (by omega)
              have LL0 := RL.at (i := 0) (t := 3) underlying3 rfl hl0
              have LLn := RL.len underlying82
              have hbd := numsGo_bd hN (fun x hx => by cases hx) (by omega)
              have g0 := getD_bd hbd 0
              have g1 := getD_bd hbd 1
              have X0 := imax_spec (l.getD 0 0) 1
              have X1 := imax_spec (l.getD 1 0) 1
              simp only [show (0 : Int).toNat = 0 from rfl] at IL0
              by_cases hl1 : 1 < l.length
              · have d8 : decide (1 < (l.length : Int)) = true := decide_eq_true (by omega)
                have IL1 := RL.index underlying82 asz3 (q := .i64) (i := (1 : Int)) (by omega) (by omega)
                have LL1 := RL.at (i := 1) (t := 3) underlying3 rfl hl1
                simp only [show (1 : Int).toNat = 1 from rfl] at IL1
                have hm : (if 1 < l.length then imax (l.getD 1 0) 1 else 1) = imax (l.getD 1 0) 1 := if_pos hl1
                simp only [wk, wt, wl, ↓reduceIte, Nat.reduceEqDiff, Nat.reduceAdd, Nat.zero_add, not_false_eq_true, not_true_eq_false, Bool.not_true, e1, e2, f109, show (!(false == false)) = false from rfl, bool_neq, IL0, LL0, LLn, mxV, d8, IL1, LL1]
                refine adraw_order [(0, false), (1, false), (2, false), (3, false), (4, false), (5, false), (6, false), (7, false), (8, false), (9, false), (10, false), (11, false)] mixed (by kernel_rfl) (by kernel_rfl) (by kernel_rfl) (by with_reducible repeat (first | exact PF_retK | refine PF_thenK ?_ | refine PF_blockK ?_)) ?_
                simp only [wk, wt, wl, ↓reduceIte, Nat.reduceEqDiff, Nat.reduceAdd, Nat.zero_add, not_false_eq_true, not_true_eq_false, dK_t, pt, m3, m4, e1, e2, f109, LLn]
                have hvt : blkOf v ≠ some t := fun e => by have := hvz t e; have := Q.var.lt H; omega
                refine W_loop (fun tm hh => tm 0 = pt t ∧ tm 81 = v ∧ tm 82 = .int .i64 l.length ∧ Ch (Rg Fs h) h hh ∧ RdI prog hh .i64 v l ∧ ∃ (i : Nat) (a : Int), tm 83 = .int .i64 (i : Int) ∧ i ≤ l.length ∧ PT hh Fs gs t nv gr { X with attr := a } f cv sv rv ps Ms ∧ attrL X.attr l = attrL a (l.drop i))
                  (fun tm _ => (l.length - intOf (tm 83)).toNat) ⟨(by first | rfl | (simp only [wk, wt, wl, ↓reduceIte, Nat.reduceEqDiff, Nat.reduceAdd, Nat.zero_add, not_false_eq_true, not_true_eq_false]; done) | (simp only [wk, wt, wl, ↓reduceIte, Nat.reduceEqDiff, Nat.reduceAdd, Nat.zero_add, not_false_eq_true, not_true_eq_false]; rfl)), (by first | rfl | (simp only [wk, wt, wl, ↓reduceIte, Nat.reduceEqDiff, Nat.reduceAdd, Nat.zero_add, not_false_eq_true, not_true_eq_false]; done) | (simp only [wk, wt, wl, ↓reduceIte, Nat.reduceEqDiff, Nat.reduceAdd, Nat.zero_add, not_false_eq_true, not_true_eq_false]; rfl)), (by first | rfl | (simp only [wk, wt, wl, ↓reduceIte, Nat.reduceEqDiff, Nat.reduceAdd, Nat.zero_add, not_false_eq_true, not_true_eq_false]; done) | (simp only [wk, wt, wl, ↓reduceIte, Nat.reduceEqDiff, Nat.reduceAdd, Nat.zero_add, not_false_eq_true, not_true_eq_false]; rfl)), K1.rg, RL, 0, X.attr, (by first | rfl | (simp only [wk, wt, wl, ↓reduceIte, Nat.reduceEqDiff, Nat.reduceAdd, Nat.zero_add, not_false_eq_true, not_true_eq_false]; done) | (simp only [wk, wt, wl, ↓reduceIte, Nat.reduceEqDiff, Nat.reduceAdd, Nat.zero_add, not_false_eq_true, not_true_eq_false]; rfl)), by omega, Q1, rfl⟩ ?_
                rintro tm hh ⟨t0, t81, t82, C, RV, i, a, t83, hi, Q2, hat⟩
                simp only [wk, wt, wl, ↓reduceIte, Nat.reduceEqDiff, Nat.reduceAdd, Nat.zero_add, not_false_eq_true, not_true_eq_false, t0, t81, t82, t83]
                refine condK_dec (fun hd => ?_) (fun hd => ?_)
                · have hi1 : i < l.length := by omega
                  have IX := RV.index underlying82 asz3 (q := .i64) (i := (i : Int)) (by omega) (by omega)
                  have LX := RV.at (i := i) (t := 3) underlying3 rfl hi1
                  simp only [Int.toNat_natCast] at IX
                  have hdr : l.drop i = l.getD i 0 :: l.drop (i + 1) := by rw [List.drop_eq_getElem_cons hi1]; congr 1; simp [List.getD, List.getElem?_eq_getElem hi1]
                  rw [hdr] at hat
                  simp only [attrL] at hat
                  generalize l.getD i 0 = x at *
                  have wi : IntKind.i64.wrap ((i : Int) + 1) = ((i + 1 : Nat) : Int) := by rw [IntWalk.i64_in _ (by omega)]; omega
                  by_cases x0 : x = 0
                  · have dx0 := decide_eq_true x0
                    obtain ⟨h3, e3, V3, C3, z3⟩ := Q2.var.store1 (P := prog) (t := 3) (v := .int .i64 0) (i := 5) (Ch.wf C) asz3 (by simp [tF]) rfl
                    have Q3 : PT h3 Fs gs t nv gr { X with attr := 0 } f cv sv rv ps Ms := Q2.own (Ch.wf C) C3 V3 rfl rfl rfl
                    rw [if_pos x0] at hat
                    simp only [wk, wt, wl, ↓reduceIte, Nat.reduceEqDiff, Nat.reduceAdd, Nat.zero_add, not_false_eq_true, not_true_eq_false, t0, t81, t82, t83, pt, IX, LX, dx0, e3, wi, intOf_int]
                    exact ⟨⟨C.thenR (Q2.dirtyT C3), Ch.rd C3 RV (fun y hy e => hvt (by rw [hy, e])), i + 1, 0, rfl, by omega, Q3, hat⟩, by omega⟩
                  · have dx0 := decide_eq_false x0
                    rw [if_neg x0] at hat
                    by_cases x7 : x = 7
                    · have dx7 := decide_eq_true x7
                      obtain ⟨h3, e3, V3, C3, z3⟩ := Q2.var.store1 (P := prog) (t := 3) (v := .int .i64 1) (i := 5) (Ch.wf C) asz3 (by simp [tF]) rfl
                      have Q3 : PT h3 Fs gs t nv gr { X with attr := 1 } f cv sv rv ps Ms := Q2.own (Ch.wf C) C3 V3 rfl rfl rfl
                      rw [if_pos x7] at hat
                      simp only [wk, wt, wl, ↓reduceIte, Nat.reduceEqDiff, Nat.reduceAdd, Nat.zero_add, not_false_eq_true, not_true_eq_false, t0, t81, t82, t83, pt, IX, LX, dx0, dx7, e3, wi, intOf_int]
                      exact ⟨⟨C.thenR (Q2.dirtyT C3), Ch.rd C3 RV (fun y hy e => hvt (by rw [hy, e])), i + 1, 1, rfl, by omega, Q3, hat⟩, by omega⟩
                    · have dx7 := decide_eq_false x7
                      rw [if_neg x7] at hat
                      simp only [wk, wt, wl, ↓reduceIte, Nat.reduceEqDiff, Nat.reduceAdd, Nat.zero_add, not_false_eq_true, not_true_eq_false, t0, t81, t82, t83, pt, IX, LX, dx0, dx7, wi, intOf_int]
                      exact ⟨⟨C, RV, i + 1, a, rfl, by omega, Q2, hat⟩, by omega⟩
                · obtain rfl : i = l.length := by omega
                  rw [List.drop_length] at hat
                  simp only [wk, wt, wl, ↓reduceIte, Nat.reduceEqDiff, Nat.reduceAdd, Nat.zero_add, not_false_eq_true, not_true_eq_false, t0, t81, t82, t83]
                  rw [hat]
                  exact ⟨⟨_, _, _, _, _, _, Q2⟩, C⟩
              · have d8 : decide (1 < (l.length : Int)) = false := decide_eq_false (by omega)
                have hm : (if 1 < l.length then imax (l.getD 1 0) 1 else 1) = 1 := if_neg hl1
                simp only [wk, wt, wl, ↓reduceIte, Nat.reduceEqDiff, Nat.reduceAdd, Nat.zero_add, not_false_eq_true, not_true_eq_false, Bool.not_true, e1, e2, f109, show (!(false == false)) = false from rfl, bool_neq, IL0, LL0, LLn, mxV, d8]
                refine adraw_order [(0, false), (1, false), (2, false), (3, false), (4, false), (5, false), (6, false), (7, false), (8, false), (9, false), (10, false), (11, false)] mixed (by kernel_rfl) (by kernel_rfl) (by kernel_rfl) (by with_reducible repeat (first | exact PF_retK | refine PF_thenK ?_ | refine PF_blockK ?_)) ?_
                simp only [wk, wt, wl, ↓reduceIte, Nat.reduceEqDiff, Nat.reduceAdd, Nat.zero_add, not_false_eq_true, not_true_eq_false, dK_t, pt, m3, m4, e1, e2, f109, LLn]
                have hvt : blkOf v ≠ some t := fun e => by have := hvz t e; have := Q.var.lt H; omega
                refine W_loop (fun tm hh => tm 0 = pt t ∧ tm 81 = v ∧ tm 82 = .int .i64 l.length ∧ Ch (Rg Fs h) h hh ∧ RdI prog hh .i64 v l ∧ ∃ (i : Nat) (a : Int), tm 83 = .int .i64 (i : Int) ∧ i ≤ l.length ∧ PT hh Fs gs t nv gr { X with attr := a } f cv sv rv ps Ms ∧ attrL X.attr l = attrL a (l.drop i))
                  (fun tm _ => (l.length - intOf (tm 83)).toNat) ⟨(by first | rfl | (simp only [wk, wt, wl, ↓reduceIte, Nat.reduceEqDiff, Nat.reduceAdd, Nat.zero_add, not_false_eq_true, not_true_eq_false]; done) | (simp only [wk, wt, wl, ↓reduceIte, Nat.reduceEqDiff, Nat.reduceAdd, Nat.zero_add, not_false_eq_true, not_true_eq_false]; rfl)), (by first | rfl | (simp only [wk, wt, wl, ↓reduceIte, Nat.reduceEqDiff, Nat.reduceAdd, Nat.zero_add, not_false_eq_true, not_true_eq_false]; done) | (simp only [wk, wt, wl, ↓reduceIte, Nat.reduceEqDiff, Nat.reduceAdd, Nat.zero_add, not_false_eq_true, not_true_eq_false]; rfl)), (by first | rfl | (simp only [wk, wt, wl, ↓reduceIte, Nat.reduceEqDiff, Nat.reduceAdd, Nat.zero_add, not_false_eq_true, not_true_eq_false]; done) | (simp only [wk, wt, wl, ↓reduceIte, Nat.reduceEqDiff, Nat.reduceAdd, Nat.zero_add, not_false_eq_true, not_true_eq_false]; rfl)), K1.rg, RL, 0, X.attr, (by first | rfl | (simp only [wk, wt, wl, ↓reduceIte, Nat.reduceEqDiff, Nat.reduceAdd, Nat.zero_add, not_false_eq_true, not_true_eq_false]; done) | (simp only [wk, wt, wl, ↓reduceIte, Nat.reduceEqDiff, Nat.reduceAdd, Nat.zero_add, not_false_eq_true, not_true_eq_false]; rfl)), by omega, Q1, rfl⟩ ?_
                rintro tm hh ⟨t0, t81, t82, C, RV, i, a, t83, hi, Q2, hat⟩
                simp only [wk, wt, wl, ↓reduceIte, Nat.reduceEqDiff, Nat.reduceAdd, Nat.zero_add, not_false_eq_true, not_true_eq_false, t0, t81, t82, t83]
                refine condK_dec (fun hd => ?_) (fun hd => ?_)
                · have hi1 : i < l.length := by omega
                  have IX := RV.index underlying82 asz3 (q := .i64) (i := (i : Int)) (by omega) (by omega)
                  have LX := RV.at (i := i) (t := 3) underlying3 rfl hi1
                  simp only [Int.toNat_natCast] at IX
                  have hdr : l.drop i = l.getD i 0 :: l.drop (i + 1) := by rw [List.drop_eq_getElem_cons hi1]; congr 1; simp [List.getD, List.getElem?_eq_getElem hi1]
                  rw [hdr] at hat
                  simp only [attrL] at hat
                  generalize l.getD i 0 = x at *
                  have wi : IntKind.i64.wrap ((i : Int) + 1) = ((i + 1 : Nat) : Int) := by rw [IntWalk.i64_in _ (by omega)]; omega
                  by_cases x0 : x = 0
                  · have dx0 := decide_eq_true x0
                    obtain ⟨h3, e3, V3, C3, z3⟩ := Q2.var.store1 (P := prog) (t := 3) (v := .int .i64 0) (i := 5) (Ch.wf C) asz3 (by simp [tF]) rfl
                    have Q3 : PT h3 Fs gs t nv gr { X with attr := 0 } f cv sv rv ps Ms := Q2.own (Ch.wf C) C3 V3 rfl rfl rfl
                    rw [if_pos x0] at hat
                    simp only [wk, wt, wl, ↓reduceIte, Nat.reduceEqDiff, Nat.reduceAdd, Nat.zero_add, not_false_eq_true, not_true_eq_false, t0, t81, t82, t83, pt, IX, LX, dx0, e3, wi, intOf_int]
                    exact ⟨⟨C.thenR (Q2.dirtyT C3), Ch.rd C3 RV (fun y hy e => hvt (by rw [hy, e])), i + 1, 0, rfl, by omega, Q3, hat⟩, by omega⟩
                  · have dx0 := decide_eq_false x0
                    rw [if_neg x0] at hat
                    by_cases x7 : x = 7
                    · have dx7 := decide_eq_true x7
                      obtain ⟨h3, e3, V3, C3, z3⟩ := Q2.var.store1 (P := prog) (t := 3) (v := .int .i64 1) (i := 5) (Ch.wf C) asz3 (by simp [tF]) rfl
                      have Q3 : PT h3 Fs gs t nv gr { X with attr := 1 } f cv sv rv ps Ms := Q2.own (Ch.wf C) C3 V3 rfl rfl rfl
                      rw [if_pos x7] at hat
                      simp only [wk, wt, wl, ↓reduceIte, Nat.reduceEqDiff, Nat.reduceAdd, Nat.zero_add, not_false_eq_true, not_true_eq_false, t0, t81, t82, t83, pt, IX, LX, dx0, dx7, e3, wi, intOf_int]
                      exact ⟨⟨C.thenR (Q2.dirtyT C3), Ch.rd C3 RV (fun y hy e => hvt (by rw [hy, e])), i + 1, 1, rfl, by omega, Q3, hat⟩, by omega⟩
                    · have dx7 := decide_eq_false x7
                      rw [if_neg x7] at hat
                      simp only [wk, wt, wl, ↓reduceIte, Nat.reduceEqDiff, Nat.reduceAdd, Nat.zero_add, not_false_eq_true, not_true_eq_false, t0, t81, t82, t83, pt, IX, LX, dx0, dx7, wi, intOf_int]
                      exact ⟨⟨C, RV, i + 1, a, rfl, by omega, Q2, hat⟩, by omega⟩
                · obtain rfl : i = l.length := by omega
                  rw [List.drop_length] at hat
                  simp only [wk, wt, wl, ↓reduceIte, Nat.reduceEqDiff, Nat.reduceAdd, Nat.zero_add, not_false_eq_true, not_true_eq_false, t0, t81, t82, t83]
                  rw [hat]
                  exact ⟨⟨_, _, _, _, _, _, Q2⟩, C⟩
            have f109 := decide_eq_false c109
            by_cases c72 : b = 72
            · have f72 := decide_eq_true c72
              have hX : doX X l b = moveX X (imax (l.getD 0 0) 1 - 1) ((if 1 < l.length then imax (l.getD 1 0) 1 else 1) - 1) := by simp only [doX]; rw [if_neg nb, if_neg c109, if_pos c72]
              rw [hX]
              have hl0 : 0 < l.length := by omega
              have IL0 := RL.index underlying82 asz3 (q := .i64) (i := (0 : Int)) (by omega) (by omega)
              have LL0 := RL.at (i := 0) (t := 3) underlying3 rfl hl0
              have LLn := RL.len underlying82
              have hbd := numsGo_bd hN (fun x hx => by cases hx) (by omega)
              have g0 := getD_bd hbd 0
              have g1 := getD_bd hbd 1
              have X0 := imax_spec (l.getD 0 0) 1
              have X1 := imax_spec (l.getD 1 0) 1
              simp only [show (0 : Int).toNat = 0 from rfl] at IL0
              by_cases hl1 : 1 < l.length
              · have d8 : decide (1 < (l.length : Int)) = true := decide_eq_true (by omega)
                have IL1 := RL.index underlying82 asz3 (q := .i64) (i := (1 : Int)) (by omega) (by omega)
                have LL1 := RL.at (i := 1) (t := 3) underlying3 rfl hl1
                simp only [show (1 : Int).toNat = 1 from rfl] at IL1
                have hm : (if 1 < l.length then imax (l.getD 1 0) 1 else 1) = imax (l.getD 1 0) 1 := if_pos hl1
                simp only [wk, wt, wl, ↓reduceIte, Nat.reduceEqDiff, Nat.reduceAdd, Nat.zero_add, not_false_eq_true, not_true_eq_false, Bool.not_true, e1, e2, f109, f72, show (!(false == false)) = false from rfl, bool_neq, IL0, LL0, LLn, mxV, d8, IL1, LL1]
                refine adraw_order [(0, false), (1, false), (2, false), (3, false), (4, false), (5, false), (6, false), (7, false), (8, false), (9, false), (10, false), (11, false)] mixed (by kernel_rfl) (by kernel_rfl) (by kernel_rfl) (by with_reducible repeat (first | exact PF_retK | refine PF_thenK ?_ | refine PF_blockK ?_)) ?_
                simp (disch := omega) only [wk, wt, wl, ↓reduceIte, Nat.reduceEqDiff, Nat.reduceAdd, Nat.zero_add, not_false_eq_true, not_true_eq_false, dK_t, pt, m3, m4, e1, e2, f109, f72, IntWalk.i64_in]
                refine (move_ok P1 I.r I.c).use ?_
                rintro _ h2 ⟨rfl, P2, C2⟩
                simp only [wk, wt, wl, ↓reduceIte, Nat.reduceEqDiff, Nat.reduceAdd, Nat.zero_add, not_false_eq_true, not_true_eq_false]
                first | exact ⟨P2, K1.rg.thenR C2⟩ | (rw [hm]; exact ⟨P2, K1.rg.thenR C2⟩)
              · have d8 : decide (1 < (l.length : Int)) = false := decide_eq_false (by omega)
                have hm : (if 1 < l.length then imax (l.getD 1 0) 1 else 1) = 1 := if_neg hl1
                simp only [wk, wt, wl, ↓reduceIte, Nat.reduceEqDiff, Nat.reduceAdd, Nat.zero_add, not_false_eq_true, not_true_eq_false, Bool.not_true, e1, e2, f109, f72, show (!(false == false)) = false from rfl, bool_neq, IL0, LL0, LLn, mxV, d8]
                refine adraw_order [(0, false), (1, false), (2, false), (3, false), (4, false), (5, false), (6, false), (7, false), (8, false), (9, false), (10, false), (11, false)] mixed (by kernel_rfl) (by kernel_rfl) (by kernel_rfl) (by with_reducible repeat (first | exact PF_retK | refine PF_thenK ?_ | refine PF_blockK ?_)) ?_
                simp (disch := omega) only [wk, wt, wl, ↓reduceIte, Nat.reduceEqDiff, Nat.reduceAdd, Nat.zero_add, not_false_eq_true, not_true_eq_false, dK_t, pt, m3, m4, e1, e2, f109, f72, IntWalk.i64_in]
                refine (move_ok P1 I.r I.c).use ?_
                rintro _ h2 ⟨rfl, P2, C2⟩
                simp only [wk, wt, wl, ↓reduceIte, Nat.reduceEqDiff, Nat.reduceAdd, Nat.zero_add, not_false_eq_true, not_true_eq_false]
                first | exact ⟨P2, K1.rg.thenR C2⟩ | (rw [hm]; exact ⟨P2, K1.rg.thenR C2⟩)
            have f72 := decide_eq_false c72
            by_cases c65 : b = 65
            · have f65 := decide_eq_true c65
              have hX : doX X l b = moveX X (X.row - imax (l.getD 0 0) 1) X.col := by simp only [doX]; rw [if_neg nb, if_neg c109, if_neg c72, if_pos c65]
              rw [hX]
              have hl0 : 0 < l.length := by omega
              have IL0 := RL.index underlying82 asz3 (q := .i64) (i := (0 : Int)) (by omega) (by omega)
              have LL0 := RL.at (i := 0) (t := 3) underlying3 rfl hl0
              have LLn := RL.len underlying82
              have hbd := numsGo_bd hN (fun x hx => by cases hx) (by omega)
              have g0 := getD_bd hbd 0
              have g1 := getD_bd hbd 1
              have X0 := imax_spec (l.getD 0 0) 1
              have X1 := imax_spec (l.getD 1 0) 1
              simp only [show (0 : Int).toNat = 0 from rfl] at IL0
              by_cases hl1 : 1 < l.length
              · have d8 : decide (1 < (l.length : Int)) = true := decide_eq_true (by omega)
                have IL1 := RL.index underlying82 asz3 (q := .i64) (i := (1 : Int)) (by omega) (by omega)
                have LL1 := RL.at (i := 1) (t := 3) underlying3 rfl hl1
                simp only [show (1 : Int).toNat = 1 from rfl] at IL1
                have hm : (if 1 < l.length then imax (l.getD 1 0) 1 else 1) = imax (l.getD 1 0) 1 := if_pos hl1
                simp only [wk, wt, wl, ↓reduceIte, Nat.reduceEqDiff, Nat.reduceAdd, Nat.zero_add, not_false_eq_true, not_true_eq_false, Bool.not_true, e1, e2, f109, f72, f65, show (!(false == false)) = false from rfl, bool_neq, IL0, LL0, LLn, mxV, d8, IL1, LL1]
                refine adraw_order [(0, false), (1, false), (2, false), (3, false), (4, false), (5, false), (6, false), (7, false), (8, false), (9, false), (10, false), (11, false)] mixed (by kernel_rfl) (by kernel_rfl) (by kernel_rfl) (by with_reducible repeat (first | exact PF_retK | refine PF_thenK ?_ | refine PF_blockK ?_)) ?_
                simp (disch := omega) only [wk, wt, wl, ↓reduceIte, Nat.reduceEqDiff, Nat.reduceAdd, Nat.zero_add, not_false_eq_true, not_true_eq_false, dK_t, pt, m3, m4, e1, e2, f109, f72, f65, IntWalk.i64_in]
                refine (move_ok P1 I.r I.c).use ?_
                rintro _ h2 ⟨rfl, P2, C2⟩
                simp only [wk, wt, wl, ↓reduceIte, Nat.reduceEqDiff, Nat.reduceAdd, Nat.zero_add, not_false_eq_true, not_true_eq_false]
                first | exact ⟨P2, K1.rg.thenR C2⟩ | (rw [hm]; exact ⟨P2, K1.rg.thenR C2⟩)
              · have d8 : decide (1 < (l.length : Int)) = false := decide_eq_false (by omega)
                have hm : (if 1 < l.length then imax (l.getD 1 0) 1 else 1) = 1 := if_neg hl1
                simp only [wk, wt, wl, ↓reduceIte, Nat.reduceEqDiff, Nat.reduceAdd, Nat.zero_add, not_false_eq_true, not_true_eq_false, Bool.not_true, e1, e2, f109, f72, f65, show (!(false == false)) = false from rfl, bool_neq, IL0, LL0, LLn, mxV, d8]
                refine adraw_order [(0, false), (1, false), (2, false), (3, false), (4, false), (5, false), (6, false), (7, false), (8, false), (9, false), (10, false), (11, false)] mixed (by kernel_rfl) (by kernel_rfl) (by kernel_rfl) (by with_reducible repeat (first | exact PF_retK | refine PF_thenK ?_ | refine PF_blockK ?_)) ?_
                simp (disch := omega) only [wk, wt, wl, ↓reduceIte, Nat.reduceEqDiff, Nat.reduceAdd, Nat.zero_add, not_false_eq_true, not_true_eq_false, dK_t, pt, m3, m4, e1, e2, f109, f72, f65, IntWalk.i64_in]
                refine (move_ok P1 I.r I.c).use ?_
                rintro _ h2 ⟨rfl, P2, C2⟩
                simp only [wk, wt, wl, ↓reduceIte, Nat.reduceEqDiff, Nat.reduceAdd, Nat.zero_add, not_false_eq_true, not_true_eq_false]
                first | exact ⟨P2, K1.rg.thenR C2⟩ | (rw [hm]; exact ⟨P2, K1.rg.thenR C2⟩)
            have f65 := decide_eq_false c65
            by_cases c66 : b = 66
            · have f66 := decide_eq_true c66
              have hX : doX X l b = moveX X (X.row + imax (l.getD 0 0) 1) X.col := by simp only [doX]; rw [if_neg nb, if_neg c109, if_neg c72, if_neg c65, if_pos c66]
              rw [hX]
              have hl0 : 0 < l.length := by omega
              have IL0 := RL.index underlying82 asz3 (q := .i64) (i := (0 : Int)) (by omega) (by omega)
              have LL0 := RL.at (i := 0) (t := 3) underlying3 rfl hl0
              have LLn := RL.len underlying82
              have hbd := numsGo_bd hN (fun x hx => by cases hx) (by omega)
              have g0 := getD_bd hbd 0
              have g1 := getD_bd hbd 1
              have X0 := imax_spec (l.getD 0 0) 1
              have X1 := imax_spec (l.getD 1 0) 1
              simp only [show (0 : Int).toNat = 0 from rfl] at IL0
              by_cases hl1 : 1 < l.length
              · have d8 : decide (1 < (l.length : Int)) = true := decide_eq_true (by omega)
                have IL1 := RL.index underlying82 asz3 (q := .i64) (i := (1 : Int)) (by omega) (by omega)
                have LL1 := RL.at (i := 1) (t := 3) underlying3 rfl hl1
                simp only [show (1 : Int).toNat = 1 from rfl] at IL1
                have hm : (if 1 < l.length then imax (l.getD 1 0) 1 else 1) = imax (l.getD 1 0) 1 := if_pos hl1
                simp only [wk, wt, wl, ↓reduceIte, Nat.reduceEqDiff, Nat.reduceAdd, Nat.zero_add, not_false_eq_true, not_true_eq_false, Bool.not_true, e1, e2, f109, f72, f65, f66, show (!(false == false)) = false from rfl, bool_neq, IL0, LL0, LLn, mxV, d8, IL1, LL1]
                refine adraw_order [(0, false), (1, false), (2, false), (3, false), (4, false), (5, false), (6, false), (7, false), (8, false), (9, false), (10, false), (11, false)] mixed (by kernel_rfl) (by kernel_rfl) (by kernel_rfl) (by with_reducible repeat (first | exact PF_retK | refine PF_thenK ?_ | refine PF_blockK ?_)) ?_
                simp (disch := omega) only [wk, wt, wl, ↓reduceIte, Nat.reduceEqDiff, Nat.reduceAdd, Nat.zero_add, not_false_eq_true, not_true_eq_false, dK_t, pt, m3, m4, e1, e2, f109, f72, f65, f66, IntWalk.i64_in]
                refine (move_ok P1 I.r I.c).use ?_
                rintro _ h2 ⟨rfl, P2, C2⟩
                simp only [wk, wt, wl, ↓reduceIte, Nat.reduceEqDiff, Nat.reduceAdd, Nat.zero_add, not_false_eq_true, not_true_eq_false]
                first | exact ⟨P2, K1.rg.thenR C2⟩ | (rw [hm]; exact ⟨P2, K1.rg.thenR C2⟩)
              · have d8 : decide (1 < (l.length : Int)) = false := decide_eq_false (by omega)
                have hm : (if 1 < l.length then imax (l.getD 1 0) 1 else 1) = 1 := if_neg hl1
                simp only [wk, wt, wl, ↓reduceIte, Nat.reduceEqDiff, Nat.reduceAdd, Nat.zero_add, not_false_eq_true, not_true_eq_false, Bool.not_true, e1, e2, f109, f72, f65, f66, show (!(false == false)) = false from rfl, bool_neq, IL0, LL0, LLn, mxV, d8]
                refine adraw_order [(0, false), (1, false), (2, false), (3, false), (4, false), (5, false), (6, false), (7, false), (8, false), (9, false), (10, false), (11, false)] mixed (by kernel_rfl) (by kernel_rfl) (by kernel_rfl) (by with_reducible repeat (first | exact PF_retK | refine PF_thenK ?_ | refine PF_blockK ?_)) ?_
                simp (disch := omega) only [wk, wt, wl, ↓reduceIte, Nat.reduceEqDiff, Nat.reduceAdd, Nat.zero_add, not_false_eq_true, not_true_eq_false, dK_t, pt, m3, m4, e1, e2, f109, f72, f65, f66, IntWalk.i64_in]
                refine (move_ok P1 I.r I.c).use ?_
                rintro _ h2 ⟨rfl, P2, C2⟩
                simp only [wk, wt, wl, ↓reduceIte, Nat.reduceEqDiff, Nat.reduceAdd, Nat.zero_add, not_false_eq_true, not_true_eq_false]
                first | exact ⟨P2, K1.rg.thenR C2⟩ | (rw [hm]; exact ⟨P2, K1.rg.thenR C2⟩)
            have f66 := decide_eq_false c66
            by_cases c67 : b = 67
            · have f67 := decide_eq_true c67
              have hX : doX X l b = moveX X X.row (X.col + imax (l.getD 0 0) 1) := by simp only [doX]; rw [if_neg nb, if_neg c109, if_neg c72, if_neg c65, if_neg c66, if_pos c67]
              rw [hX]
              have hl0 : 0 < l.length := by omega
              have IL0 := RL.index underlying82 asz3 (q := .i64) (i := (0 : Int)) (by omega) (by omega)
              have LL0 := RL.at (i := 0) (t := 3) underlying3 rfl hl0
              have LLn := RL.len underlying82
              have hbd := numsGo_bd hN (fun x hx => by cases hx) (by omega)
              have g0 := getD_bd hbd 0
              have g1 := getD_bd hbd 1
              have X0 := imax_spec (l.getD 0 0) 1
              have X1 := imax_spec (l.getD 1 0) 1
              simp only [show (0 : Int).toNat = 0 from rfl] at IL0
              by_cases hl1 : 1 < l.length
              · have d8 : decide (1 < (l.length : Int)) = true := decide_eq_true (by omega)
                have IL1 := RL.index underlying82 asz3 (q := .i64) (i := (1 : Int)) (by omega) (by omega)
                have LL1 := RL.at (i := 1) (t := 3) underlying3 rfl hl1
                simp only [show (1 : Int).toNat = 1 from rfl] at IL1
                have hm : (if 1 < l.length then imax (l.getD 1 0) 1 else 1) = imax (l.getD 1 0) 1 := if_pos hl1
                simp only [wk, wt, wl, ↓reduceIte, Nat.reduceEqDiff, Nat.reduceAdd, Nat.zero_add, not_false_eq_true, not_true_eq_false, Bool.not_true, e1, e2, f109, f72, f65, f66, f67, show (!(false == false)) = false from rfl, bool_neq, IL0, LL0, LLn, mxV, d8, IL1, LL1]
                refine adraw_order [(0, false), (1, false), (2, false), (3, false), (4, false), (5, false), (6, false), (7, false), (8, false), (9, false), (10, false), (11, false)] mixed (by kernel_rfl) (by kernel_rfl) (by kernel_rfl) (by with_reducible repeat (first | exact PF_retK | refine PF_thenK ?_ | refine PF_blockK ?_)) ?_
                simp (disch := omega) only [wk, wt, wl, ↓reduceIte, Nat.reduceEqDiff, Nat.reduceAdd, Nat.zero_add, not_false_eq_true, not_true_eq_false, dK_t, pt, m3, m4, e1, e2, f109, f72, f65, f66, f67, IntWalk.i64_in]
                refine (move_ok P1 I.r I.c).use ?_
                rintro _ h2 ⟨rfl, P2, C2⟩
                simp only [wk, wt, wl, ↓reduceIte, Nat.reduceEqDiff, Nat.reduceAdd, Nat.zero_add, not_false_eq_true, not_true_eq_false]
                first | exact ⟨P2, K1.rg.thenR C2⟩ | (rw [hm]; exact ⟨P2, K1.rg.thenR C2⟩)
              · have d8 : decide (1 < (l.length : Int)) = false := decide_eq_false (by omega)
                have hm : (if 1 < l.length then imax (l.getD 1 0) 1 else 1) = 1 := if_neg hl1
                simp only [wk, wt, wl, ↓reduceIte, Nat.reduceEqDiff, Nat.reduceAdd, Nat.zero_add, not_false_eq_true, not_true_eq_false, Bool.not_true, e1, e2, f109, f72, f65, f66, f67, show (!(false == false)) = false from rfl, bool_neq, IL0, LL0, LLn, mxV, d8]
                refine adraw_order [(0, false), (1, false), (2, false), (3, false), (4, false), (5, false), (6, false), (7, false), (8, false), (9, false), (10, false), (11, false)] mixed (by kernel_rfl) (by kernel_rfl) (by kernel_rfl) (by with_reducible repeat (first | exact PF_retK | refine PF_thenK ?_ | refine PF_blockK ?_)) ?_
                simp (disch := omega) only [wk, wt, wl, ↓reduceIte, Nat.reduceEqDiff, Nat.reduceAdd, Nat.zero_add, not_false_eq_true, not_true_eq_false, dK_t, pt, m3, m4, e1, e2, f109, f72, f65, f66, f67, IntWalk.i64_in]
                refine (move_ok P1 I.r I.c).use ?_
                rintro _ h2 ⟨rfl, P2, C2⟩
                simp only [wk, wt, wl, ↓reduceIte, Nat.reduceEqDiff, Nat.reduceAdd, Nat.zero_add, not_false_eq_true, not_true_eq_false]
                first | exact ⟨P2, K1.rg.thenR C2⟩ | (rw [hm]; exact ⟨P2, K1.rg.thenR C2⟩)
            have f67 := decide_eq_false c67
            by_cases c68 : b = 68
            · have f68 := decide_eq_true c68
              have hX : doX X l b = moveX X X.row (X.col - imax (l.getD 0 0) 1) := by simp only [doX]; rw [if_neg nb, if_neg c109, if_neg c72, if_neg c65, if_neg c66, if_neg c67, if_pos c68]
              rw [hX]
              have hl0 : 0 < l.length := by omega
              have IL0 := RL.index underlying82 asz3 (q := .i64) (i := (0 : Int)) (by omega) (by omega)
              have LL0 := RL.at (i := 0) (t := 3) underlying3 rfl hl0
              have LLn := RL.len underlying82
              have hbd := numsGo_bd hN (fun x hx => by cases hx) (by omega)
              have g0 := getD_bd hbd 0
              have g1 := getD_bd hbd 1
              have X0 := imax_spec (l.getD 0 0) 1
              have X1 := imax_spec (l.getD 1 0) 1
              simp only [show (0 : Int).toNat = 0 from rfl] at IL0
              by_cases hl1 : 1 < l.length
              · have d8 : decide (1 < (l.length : Int)) = true := decide_eq_true (by omega)
                have IL1 := RL.index underlying82 asz3 (q := .i64) (i := (1 : Int)) (by omega) (by omega)
                have LL1 := RL.at (i := 1) (t := 3) underlying3 rfl hl1
                simp only [show (1 : Int).toNat = 1 from rfl] at IL1
                have hm : (if 1 < l.length then imax (l.getD 1 0) 1 else 1) = imax (l.getD 1 0) 1 := if_pos hl1
                simp only [wk, wt, wl, ↓reduceIte, Nat.reduceEqDiff, Nat.reduceAdd, Nat.zero_add, not_false_eq_true, not_true_eq_false, Bool.not_true, e1, e2, f109, f72, f65, f66, f67, f68, show (!(false == false)) = false from rfl, bool_neq, IL0, LL0, LLn, mxV, d8, IL1, LL1]
                refine adraw_order [(0, false), (1, false), (2, false), (3, false), (4, false), (5, false), (6, false), (7, false), (8, false), (9, false), (10, false), (11, false)] mixed (by kernel_rfl) (by kernel_rfl) (by kernel_rfl) (by with_reducible repeat (first | exact PF_retK | refine PF_thenK ?_ | refine PF_blockK ?_)) ?_
                simp (disch := omega) only [wk, wt, wl, ↓reduceIte, Nat.reduceEqDiff, Nat.reduceAdd, Nat.zero_add, not_false_eq_true, not_true_eq_false, dK_t, pt, m3, m4, e1, e2, f109, f72, f65, f66, f67, f68, IntWalk.i64_in]
                refine (move_ok P1 I.r I.c).use ?_
                rintro _ h2 ⟨rfl, P2, C2⟩
                simp only [wk, wt, wl, ↓reduceIte, Nat.reduceEqDiff, Nat.reduceAdd, Nat.zero_add, not_false_eq_true, not_true_eq_false]
                first | exact ⟨P2, K1.rg.thenR C2⟩ | (rw [hm]; exact ⟨P2, K1.rg.thenR C2⟩)
              · have d8 : decide (1 < (l.length : Int)) = false := decide_eq_false (by omega)
                have hm : (if 1 < l.length then imax (l.getD 1 0) 1 else 1) = 1 := if_neg hl1
                simp only [wk, wt, wl, ↓reduceIte, Nat.reduceEqDiff, Nat.reduceAdd, Nat.zero_add, not_false_eq_true, not_true_eq_false, Bool.not_true, e1, e2, f109, f72, f65, f66, f67, f68, show (!(false == false)) = false from rfl, bool_neq, IL0, LL0, LLn, mxV, d8]
                refine adraw_order [(0, false), (1, false), (2, false), (3, false), (4, false), (5, false), (6, false), (7, false), (8, false), (9, false), (10, false), (11, false)] mixed (by kernel_rfl) (by kernel_rfl) (by kernel_rfl) (by with_reducible repeat (first | exact PF_retK | refine PF_thenK ?_ | refine PF_blockK ?_)) ?_
                simp (disch := omega) only [wk, wt, wl, ↓reduceIte, Nat.reduceEqDiff, Nat.reduceAdd, Nat.zero_add, not_false_eq_true, not_true_eq_false, dK_t, pt, m3, m4, e1, e2, f109, f72, f65, f66, f67, f68, IntWalk.i64_in]
                refine (move_ok P1 I.r I.c).use ?_
                rintro _ h2 ⟨rfl, P2, C2⟩
                simp only [wk, wt, wl, ↓reduceIte, Nat.reduceEqDiff, Nat.reduceAdd, Nat.zero_add, not_false_eq_true, not_true_eq_false]
                first | exact ⟨P2, K1.rg.thenR C2⟩ | (rw [hm]; exact ⟨P2, K1.rg.thenR C2⟩)
            have f68 := decide_eq_false c68
            by_cases c71 : b = 71
            · have f71 := decide_eq_true c71
              have hX : doX X l b = moveX X X.row (imax (l.getD 0 0) 1 - 1) := by simp only [doX]; rw [if_neg nb, if_neg c109, if_neg c72, if_neg c65, if_neg c66, if_neg c67, if_neg c68, if_pos c71]
              rw [hX]
              have hl0 : 0 < l.length := by omega
              have IL0 := RL.index underlying82 asz3 (q := .i64) (i := (0 : Int)) (by omega) (by omega)
              have LL0 := RL.at (i := 0) (t := 3) underlying3 rfl hl0
              have LLn := RL.len underlying82
              have hbd := numsGo_bd hN (fun x hx => by cases hx) (by omega)
              have g0 := getD_bd hbd 0
              have g1 := getD_bd hbd 1
              have X0 := imax_spec (l.getD 0 0) 1
              have X1 := imax_spec (l.getD 1 0) 1
              simp only [show (0 : Int).toNat = 0 from rfl] at IL0
              by_cases hl1 : 1 < l.length
              · have d8 : decide (1 < (l.length : Int)) = true := decide_eq_true (by omega)
                have IL1 := RL.index underlying82 asz3 (q := .i64) (i := (1 : Int)) (by omega) (by omega)
                have LL1 := RL.at (i := 1) (t := 3) underlying3 rfl hl1
                simp only [show (1 : Int).toNat = 1 from rfl] at IL1
                have hm : (if 1 < l.length then imax (l.getD 1 0) 1 else 1) = imax (l.getD 1 0) 1 := if_pos hl1
                simp only [wk, wt, wl, ↓reduceIte, Nat.reduceEqDiff, Nat.reduceAdd, Nat.zero_add, not_false_eq_true, not_true_eq_false, Bool.not_true, e1, e2, f109, f72, f65, f66, f67, f68, f71, show (!(false == false)) = false from rfl, bool_neq, IL0, LL0, LLn, mxV, d8, IL1, LL1]
                refine adraw_order [(0, false), (1, false), (2, false), (3, false), (4, false), (5, false), (6, false), (7, false), (8, false), (9, false), (10, false), (11, false)] mixed (by kernel_rfl) (by kernel_rfl) (by kernel_rfl) (by with_reducible repeat (first | exact PF_retK | refine PF_thenK ?_ | refine PF_blockK ?_)) ?_
                simp (disch := omega) only [wk, wt, wl, ↓reduceIte, Nat.reduceEqDiff, Nat.reduceAdd, Nat.zero_add, not_false_eq_true, not_true_eq_false, dK_t, pt, m3, m4, e1, e2, f109, f72, f65, f66, f67, f68, f71, IntWalk.i64_in]
                refine (move_ok P1 I.r I.c).use ?_
                rintro _ h2 ⟨rfl, P2, C2⟩
                simp only [wk, wt, wl, ↓reduceIte, Nat.reduceEqDiff, Nat.reduceAdd, Nat.zero_add, not_false_eq_true, not_true_eq_false]
                first | exact ⟨P2, K1.rg.thenR C2⟩ | (rw [hm]; exact ⟨P2, K1.rg.thenR C2⟩)
              · have d8 : decide (1 < (l.length : Int)) = false := decide_eq_false (by omega)
                have hm : (if 1 < l.length then imax (l.getD 1 0) 1 else 1) = 1 := if_neg hl1
                simp only [wk, wt, wl, ↓reduceIte, Nat.reduceEqDiff, Nat.reduceAdd, Nat.zero_add, not_false_eq_true, not_true_eq_false, Bool.not_true, e1, e2, f109, f72, f65, f66, f67, f68, f71, show (!(false == false)) = false from rfl, bool_neq, IL0, LL0, LLn, mxV, d8]
                refine adraw_order [(0, false), (1, false), (2, false), (3, false), (4, false), (5, false), (6, false), (7, false), (8, false), (9, false), (10, false), (11, false)] mixed (by kernel_rfl) (by kernel_rfl) (by kernel_rfl) (by with_reducible repeat (first | exact PF_retK | refine PF_thenK ?_ | refine PF_blockK ?_)) ?_
                simp (disch := omega) only [wk, wt, wl, ↓reduceIte, Nat.reduceEqDiff, Nat.reduceAdd, Nat.zero_add, not_false_eq_true, not_true_eq_false, dK_t, pt, m3, m4, e1, e2, f109, f72, f65, f66, f67, f68, f71, IntWalk.i64_in]
                refine (move_ok P1 I.r I.c).use ?_
                rintro _ h2 ⟨rfl, P2, C2⟩
                simp only [wk, wt, wl, ↓reduceIte, Nat.reduceEqDiff, Nat.reduceAdd, Nat.zero_add, not_false_eq_true, not_true_eq_false]
                first | exact ⟨P2, K1.rg.thenR C2⟩ | (rw [hm]; exact ⟨P2, K1.rg.thenR C2⟩)
            have f71 := decide_eq_false c71
            by_cases c74 : b = 74
            · have f74 := decide_eq_true c74
              have hX : doX X l b = eraseX X (l.getD 0 0) 0 X.cells.length := by simp only [doX]; rw [if_neg nb, if_neg c109, if_neg c72, if_neg c65, if_neg c66, if_neg c67, if_neg c68, if_neg c71, if_pos c74]
              rw [hX]
              have hl0 : 0 < l.length := by omega
              have IL0 := RL.index underlying82 asz3 (q := .i64) (i := (0 : Int)) (by omega) (by omega)
              have LL0 := RL.at (i := 0) (t := 3) underlying3 rfl hl0
              have LLn := RL.len underlying82
              have hbd := numsGo_bd hN (fun x hx => by cases hx) (by omega)
              have g0 := getD_bd hbd 0
              have g1 := getD_bd hbd 1
              have X0 := imax_spec (l.getD 0 0) 1
              have X1 := imax_spec (l.getD 1 0) 1
              simp only [show (0 : Int).toNat = 0 from rfl] at IL0
              by_cases hl1 : 1 < l.length
              · have d8 : decide (1 < (l.length : Int)) = true := decide_eq_true (by omega)
                have IL1 := RL.index underlying82 asz3 (q := .i64) (i := (1 : Int)) (by omega) (by omega)
                have LL1 := RL.at (i := 1) (t := 3) underlying3 rfl hl1
                simp only [show (1 : Int).toNat = 1 from rfl] at IL1
                have hm : (if 1 < l.length then imax (l.getD 1 0) 1 else 1) = imax (l.getD 1 0) 1 := if_pos hl1
                simp only [wk, wt, wl, ↓reduceIte, Nat.reduceEqDiff, Nat.reduceAdd, Nat.zero_add, not_false_eq_true, not_true_eq_false, Bool.not_true, e1, e2, f109, f72, f65, f66, f67, f68, f71, f74, show (!(false == false)) = false from rfl, bool_neq, IL0, LL0, LLn, mxV, d8, IL1, LL1]
                refine adraw_order [(0, false), (1, false), (2, false), (3, false), (4, false), (5, false), (6, false), (7, false), (8, false), (9, false), (10, false), (11, false)] mixed (by kernel_rfl) (by kernel_rfl) (by kernel_rfl) (by with_reducible repeat (first | exact PF_retK | refine PF_thenK ?_ | refine PF_blockK ?_)) ?_
                simp only [wk, wt, wl, ↓reduceIte, Nat.reduceEqDiff, Nat.reduceAdd, Nat.zero_add, not_false_eq_true, not_true_eq_false, dK_t, pt, m3, m4, e1, e2, f109, f72, f65, f66, f67, f68, f71, f74]
                refine adraw_order [(0, false), (1, false), (2, false), (3, false), (4, false), (5, false), (6, false), (7, false), (8, false), (9, false), (10, false)] mixed (by kernel_rfl) (by kernel_rfl) (by kernel_rfl) (by with_reducible repeat (first | exact PF_retK | refine PF_thenK ?_ | refine PF_blockK ?_)) ?_
                simp only [wk, wt, wl, ↓reduceIte, Nat.reduceEqDiff, Nat.reduceAdd, Nat.zero_add, not_false_eq_true, not_true_eq_false, dK_t, pt, IL0, LL0, m2, Q1.gp.len]
                refine (erase_ok (q := l.getD 0 0) (F := 0) (T := X.cells.length) P1 I (Nat.le_refl _)).use ?_
                rintro _ h2 ⟨rfl, P2, C2⟩
                simp only [wk, wt, wl, ↓reduceIte, Nat.reduceEqDiff, Nat.reduceAdd, Nat.zero_add, not_false_eq_true, not_true_eq_false]
                exact ⟨P2, K1.rg.thenR C2⟩
              · have d8 : decide (1 < (l.length : Int)) = false := decide_eq_false (by omega)
                have hm : (if 1 < l.length then imax (l.getD 1 0) 1 else 1) = 1 := if_neg hl1
                simp only [wk, wt, wl, ↓reduceIte, Nat.reduceEqDiff, Nat.reduceAdd, Nat.zero_add, not_false_eq_true, not_true_eq_false, Bool.not_true, e1, e2, f109, f72, f65, f66, f67, f68, f71, f74, show (!(false == false)) = false from rfl, bool_neq, IL0, LL0, LLn, mxV, d8]
                refine adraw_order [(0, false), (1, false), (2, false), (3, false), (4, false), (5, false), (6, false), (7, false), (8, false), (9, false), (10, false), (11, false)] mixed (by kernel_rfl) (by kernel_rfl) (by kernel_rfl) (by with_reducible repeat (first | exact PF_retK | refine PF_thenK ?_ | refine PF_blockK ?_)) ?_
                simp only [wk, wt, wl, ↓reduceIte, Nat.reduceEqDiff, Nat.reduceAdd, Nat.zero_add, not_false_eq_true, not_true_eq_false, dK_t, pt, m3, m4, e1, e2, f109, f72, f65, f66, f67, f68, f71, f74]
                refine adraw_order [(0, false), (1, false), (2, false), (3, false), (4, false), (5, false), (6, false), (7, false), (8, false), (9, false), (10, false)] mixed (by kernel_rfl) (by kernel_rfl) (by kernel_rfl) (by with_reducible repeat (first | exact PF_retK | refine PF_thenK ?_ | refine PF_blockK ?_)) ?_
                simp only [wk, wt, wl, ↓reduceIte, Nat.reduceEqDiff, Nat.reduceAdd, Nat.zero_add, not_false_eq_true, not_true_eq_false, dK_t, pt, IL0, LL0, m2, Q1.gp.len]
                refine (erase_ok (q := l.getD 0 0) (F := 0) (T := X.cells.length) P1 I (Nat.le_refl _)).use ?_
                rintro _ h2 ⟨rfl, P2, C2⟩
                simp only [wk, wt, wl, ↓reduceIte, Nat.reduceEqDiff, Nat.reduceAdd, Nat.zero_add, not_false_eq_true, not_true_eq_false]
                exact ⟨P2, K1.rg.thenR C2⟩
            have f74 := decide_eq_false c74
            by_cases c75 : b = 75
            · have f75 := decide_eq_true c75
              have hX : doX X l b = eraseX X (l.getD 0 0) (X.row * X.cols) ((X.row + 1) * X.cols) := by simp only [doX]; rw [if_neg nb, if_neg c109, if_neg c72, if_neg c65, if_neg c66, if_neg c67, if_neg c68, if_neg c71, if_neg c74, if_pos c75]
              rw [hX]
              have hl0 : 0 < l.length := by omega
              have IL0 := RL.index underlying82 asz3 (q := .i64) (i := (0 : Int)) (by omega) (by omega)
              have LL0 := RL.at (i := 0) (t := 3) underlying3 rfl hl0
              have LLn := RL.len underlying82
              have hbd := numsGo_bd hN (fun x hx => by cases hx) (by omega)
              have g0 := getD_bd hbd 0
              have g1 := getD_bd hbd 1
              have X0 := imax_spec (l.getD 0 0) 1
              have X1 := imax_spec (l.getD 1 0) 1
              simp only [show (0 : Int).toNat = 0 from rfl] at IL0
              by_cases hl1 : 1 < l.length
              · have d8 : decide (1 < (l.length : Int)) = true := decide_eq_true (by omega)
                have IL1 := RL.index underlying82 asz3 (q := .i64) (i := (1 : Int)) (by omega) (by omega)
                have LL1 := RL.at (i := 1) (t := 3) underlying3 rfl hl1
                simp only [show (1 : Int).toNat = 1 from rfl] at IL1
                have hm : (if 1 < l.length then imax (l.getD 1 0) 1 else 1) = imax (l.getD 1 0) 1 := if_pos hl1
                simp only [wk, wt, wl, ↓reduceIte, Nat.reduceEqDiff, Nat.reduceAdd, Nat.zero_add, not_false_eq_true, not_true_eq_false, Bool.not_true, e1, e2, f109, f72, f65, f66, f67, f68, f71, f74, f75, show (!(false == false)) = false from rfl, bool_neq, IL0, LL0, LLn, mxV, d8, IL1, LL1]
                refine adraw_order [(0, false), (1, false), (2, false), (3, false), (4, false), (5, false), (6, false), (7, false), (8, false), (9, false), (10, false), (11, false)] mixed (by kernel_rfl) (by kernel_rfl) (by kernel_rfl) (by with_reducible repeat (first | exact PF_retK | refine PF_thenK ?_ | refine PF_blockK ?_)) ?_
                obtain ⟨A, hA, hAl, hlenC, _⟩ := I.rowA
                obtain ⟨cc, hcc2⟩ : ∃ c : Nat, X.cols = (c : Int) := ⟨X.cols.toNat, by omega⟩
                have wr : IntKind.i64.wrap (X.row + 1) = X.row + 1 := IntWalk.i64_in _ (by omega)
                have hA2 : (X.row + 1) * X.cols = ((A + cc : Nat) : Int) := by rw [Int.add_mul, Int.one_mul, hA]; omega
                have w1 : IntKind.i64.wrap (X.row * X.cols) = (A : Int) := by rw [hA]; exact IntWalk.i64_in _ (by omega)
                have w2 : IntKind.i64.wrap ((X.row + 1) * X.cols) = ((A + cc : Nat) : Int) := by rw [hA2]; exact IntWalk.i64_in _ (by omega)
                simp only [wk, wt, wl, ↓reduceIte, Nat.reduceEqDiff, Nat.reduceAdd, Nat.zero_add, not_false_eq_true, not_true_eq_false, dK_t, pt, m3, m4, e1, e2, f109, f72, f65, f66, f67, f68, f71, f74, f75]
                refine adraw_order [(0, false), (1, false), (2, false), (3, false), (4, false), (5, false), (6, false), (7, false), (8, false), (9, false), (10, false), (11, false), (12, false), (13, false), (14, false), (15, false), (16, false), (17, false), (18, false), (19, false)] mixed (by kernel_rfl) (by kernel_rfl) (by kernel_rfl) (by with_reducible repeat (first | exact PF_retK | refine PF_thenK ?_ | refine PF_blockK ?_)) ?_
                simp only [wk, wt, wl, ↓reduceIte, Nat.reduceEqDiff, Nat.reduceAdd, Nat.zero_add, not_false_eq_true, not_true_eq_false, dK_t, pt, IL0, LL0, m1, wr, w1, w2]
                refine (erase_ok (q := l.getD 0 0) (F := A) (T := A + cc) P1 I (by omega)).use ?_
                rintro _ h2 ⟨rfl, P2, C2⟩
                simp only [wk, wt, wl, ↓reduceIte, Nat.reduceEqDiff, Nat.reduceAdd, Nat.zero_add, not_false_eq_true, not_true_eq_false]
                rw [hA, hA2]
                exact ⟨P2, K1.rg.thenR C2⟩
              · have d8 : decide (1 < (l.length : Int)) = false := decide_eq_false (by omega)
                have hm : (if 1 < l.length then imax (l.getD 1 0) 1 else 1) = 1 := if_neg hl1
                simp only [wk, wt, wl, ↓reduceIte, Nat.reduceEqDiff, Nat.reduceAdd, Nat.zero_add, not_false_eq_true, not_true_eq_false, Bool.not_true, e1, e2, f109, f72, f65, f66, f67, f68, f71, f74, f75, show (!(false == false)) = false from rfl, bool_neq, IL0, LL0, LLn, mxV, d8]
                refine adraw_order [(0, false), (1, false), (2, false), (3, false), (4, false), (5, false), (6, false), (7, false), (8, false), (9, false), (10, false), (11, false)] mixed (by kernel_rfl) (by kernel_rfl) (by kernel_rfl) (by with_reducible repeat (first | exact PF_retK | refine PF_thenK ?_ | refine PF_blockK ?_)) ?_
                obtain ⟨A, hA, hAl, hlenC, _⟩ := I.rowA
                obtain ⟨cc, hcc2⟩ : ∃ c : Nat, X.cols = (c : Int) := ⟨X.cols.toNat, by omega⟩
                have wr : IntKind.i64.wrap (X.row + 1) = X.row + 1 := IntWalk.i64_in _ (by omega)
                have hA2 : (X.row + 1) * X.cols = ((A + cc : Nat) : Int) := by rw [Int.add_mul, Int.one_mul, hA]; omega
                have w1 : IntKind.i64.wrap (X.row * X.cols) = (A : Int) := by rw [hA]; exact IntWalk.i64_in _ (by omega)
                have w2 : IntKind.i64.wrap ((X.row + 1) * X.cols) = ((A + cc : Nat) : Int) := by rw [hA2]; exact IntWalk.i64_in _ (by omega)
                simp only [wk, wt, wl, ↓reduceIte, Nat.reduceEqDiff, Nat.reduceAdd, Nat.zero_add, not_false_eq_true, not_true_eq_false, dK_t, pt, m3, m4, e1, e2, f109, f72, f65, f66, f67, f68, f71, f74, f75]
                refine adraw_order [(0, false), (1, false), (2, false), (3, false), (4, false), (5, false), (6, false), (7, false), (8, false), (9, false), (10, false), (11, false), (12, false), (13, false), (14, false), (15, false), (16, false), (17, false), (18, false), (19, false)] mixed (by kernel_rfl) (by kernel_rfl) (by kernel_rfl) (by with_reducible repeat (first | exact PF_retK | refine PF_thenK ?_ | refine PF_blockK ?_)) ?_
                simp only [wk, wt, wl, ↓reduceIte, Nat.reduceEqDiff, Nat.reduceAdd, Nat.zero_add, not_false_eq_true, not_true_eq_false, dK_t, pt, IL0, LL0, m1, wr, w1, w2]
                refine (erase_ok (q := l.getD 0 0) (F := A) (T := A + cc) P1 I (by omega)).use ?_
                rintro _ h2 ⟨rfl, P2, C2⟩
                simp only [wk, wt, wl, ↓reduceIte, Nat.reduceEqDiff, Nat.reduceAdd, Nat.zero_add, not_false_eq_true, not_true_eq_false]
                rw [hA, hA2]
                exact ⟨P2, K1.rg.thenR C2⟩
            have f75 := decide_eq_false c75
            have hX : doX X l b = X := by simp only [doX]; rw [if_neg nb, if_neg c109, if_neg c72, if_neg c65, if_neg c66, if_neg c67, if_neg c68, if_neg c71, if_neg c74, if_neg c75]
            rw [hX]
            have hl0 : 0 < l.length := by omega
            have IL0 := RL.index underlying82 asz3 (q := .i64) (i := (0 : Int)) (by omega) (by omega)
            have LL0 := RL.at (i := 0) (t := 3) underlying3 rfl hl0
            have LLn := RL.len underlying82
            have hbd := numsGo_bd hN (fun x hx => by cases hx) (by omega)
            have g0 := getD_bd hbd 0
            have g1 := getD_bd hbd 1
            have X0 := imax_spec (l.getD 0 0) 1
            have X1 := imax_spec (l.getD 1 0) 1
            simp only [show (0 : Int).toNat = 0 from rfl] at IL0
            by_cases hl1 : 1 < l.length
            · have d8 : decide (1 < (l.length : Int)) = true := decide_eq_true (by omega)
              have IL1 := RL.index underlying82 asz3 (q := .i64) (i := (1 : Int)) (by omega) (by omega)
              have LL1 := RL.at (i := 1) (t := 3) underlying3 rfl hl1
              simp only [show (1 : Int).toNat = 1 from rfl] at IL1
              have hm : (if 1 < l.length then imax (l.getD 1 0) 1 else 1) = imax (l.getD 1 0) 1 := if_pos hl1
              simp only [wk, wt, wl, ↓reduceIte, Nat.reduceEqDiff, Nat.reduceAdd, Nat.zero_add, not_false_eq_true, not_true_eq_false, Bool.not_true, e1, e2, f109, f72, f65, f66, f67, f68, f71, f74, f75, show (!(false == false)) = false from rfl, bool_neq, IL0, LL0, LLn, mxV, d8, IL1, LL1]
              refine adraw_order [(0, false), (1, false), (2, false), (3, false), (4, false), (5, false), (6, false), (7, false), (8, false), (9, false), (10, false), (11, false)] mixed (by kernel_rfl) (by kernel_rfl) (by kernel_rfl) (by with_reducible repeat (first | exact PF_retK | refine PF_thenK ?_ | refine PF_blockK ?_)) ?_
              simp only [wk, wt, wl, ↓reduceIte, Nat.reduceEqDiff, Nat.reduceAdd, Nat.zero_add, not_false_eq_true, not_true_eq_false, dK_t, pt, m3, m4, e1, e2, f109, f72, f65, f66, f67, f68, f71, f74, f75]
              exact fin
            · have d8 : decide (1 < (l.length : Int)) = false := decide_eq_false (by omega)
              have hm : (if 1 < l.length then imax (l.getD 1 0) 1 else 1) = 1 := if_neg hl1
              simp only [wk, wt, wl, ↓reduceIte, Nat.reduceEqDiff, Nat.reduceAdd, Nat.zero_add, not_false_eq_true, not_true_eq_false, Bool.not_true, e1, e2, f109, f72, f65, f66, f67, f68, f71, f74, f75, show (!(false == false)) = false from rfl, bool_neq, IL0, LL0, LLn, mxV, d8]
              refine adraw_order [(0, false), (1, false), (2, false), (3, false), (4, false), (5, false), (6, false), (7, false), (8, false), (9, false), (10, false), (11, false)] mixed (by kernel_rfl) (by kernel_rfl) (by kernel_rfl) (by with_reducible repeat (first | exact PF_retK | refine PF_thenK ?_ | refine PF_blockK ?_)) ?_
              simp only [wk, wt, wl, ↓reduceIte, Nat.reduceEqDiff, Nat.reduceAdd, Nat.zero_add, not_false_eq_true, not_true_eq_false, dK_t, pt, m3, m4, e1, e2, f109, f72, f65, f66, f67, f68, f71, f74, f75]
              exact fin
end Go.Proofs.YtefpalmihdbmiaaDoor.Am
end
section
/- A terminal in plain terms: its grid stays right, whatever is typed and wiped; no program in sight. -/
set_option linter.unusedSimpArgs false
set_option linter.unusedVariables false
set_option maxHeartbeats 4000000
namespace Go.Proofs.YtefpalmihdbmiaaDoor.Am
open Go Go.RowKit Go.Proofs.Tryd
/-- Cells of rows of so many columns are right. -/
structure GI (cols : Int) (l : List Cel) : Prop where
  emp : ∀ (i : Nat) (c : Cel), l[i]? = some c → c.tx = [] → ∃ (j : Nat) (d : Cel), i = j + 1 ∧ l[j]? = some d ∧ d.wd = true ∧ (i : Int) % cols ≠ 0
  wid : ∀ (i : Nat) (c : Cel), l[i]? = some c → c.wd = true → ∃ d : Cel, l[i + 1]? = some d ∧ d.tx = []
  nw : ∀ (i : Nat) (c : Cel), l[i]? = some c → c.tx = [] → c.wd = false
theorem Inv.gi {X : TX} (I : Inv X) : GI X.cols X.cells := ⟨I.emp, I.wid, I.nw⟩
theorem bl_tx {a : Int} : (bl a).tx ≠ [] := by simp [bl]
theorem bl_wd {a : Int} : (bl a).wd = false := rfl
/-- Where a row of cells is blanked that parts no wide one. -/
theorem GI.blank {cols : Int} {l : List Cel} (G : GI cols l) {f t : Nat} (hf : ∀ c, l[f]? = some c → f < t → c.tx ≠ []) (ht : ∀ c, l[t]? = some c → f < t → c.tx ≠ []) : GI cols (setB l f t) := by
  by_cases hft : f < t
  · refine ⟨fun i c hi hc => ?_, fun i c hi hc => ?_, fun i c hi hc => ?_⟩
    · rw [setB_at, Option.map_eq_some_iff] at hi
      obtain ⟨c0, h0, rfl⟩ := hi
      split at hc
      · exact absurd hc bl_tx
      · rename_i hn
        obtain ⟨j, d, rfl, hj, hd, hm⟩ := G.emp _ _ h0 hc
        refine ⟨j, d, rfl, ?_, hd, hm⟩
        rw [setB_at, hj, Option.map_some, if_neg]
        intro hb
        have : j + 1 = t := by omega
        subst this
        exact ht _ h0 hft hc
    · rw [setB_at, Option.map_eq_some_iff] at hi
      obtain ⟨c0, h0, rfl⟩ := hi
      split at hc
      · cases hc
      · rename_i hn
        obtain ⟨d, hd, he⟩ := G.wid _ _ h0 hc
        refine ⟨d, ?_, he⟩
        rw [setB_at, hd, Option.map_some, if_neg]
        intro hb
        have : i + 1 = f := by omega
        subst this
        exact hf _ hd hft he
    · rw [setB_at, Option.map_eq_some_iff] at hi
      obtain ⟨c0, h0, rfl⟩ := hi
      split at hc
      · exact absurd hc bl_tx
      · rename_i hn
        rw [if_neg hn]
        exact G.nw _ _ h0 hc
  · have e : setB l f t = l := by
      refine List.ext_getElem? fun i => ?_
      rw [setB_at]
      cases l[i]? with
      | none => rfl
      | some c => simp only [Option.map_some]; rw [if_neg (by omega)]
    rw [e]; exact G
theorem GI.wipe {cols : Int} {l : List Cel} (G : GI cols l) {f t : Nat} (hT : t ≤ l.length) : GI cols (wipeL l f t) := by
  unfold wipeL
  split
  · rename_i hft
    have hfl : f < l.length := by omega
    have h1 : l[f]? = some l[f] := List.getElem?_eq_getElem hfl
    have h2 : l[t - 1]? = some l[t - 1] := List.getElem?_eq_getElem (by omega)
    rw [getD_at h1, getD_at h2]
    refine G.blank (fun c hc _ he => ?_) (fun c hc _ he => ?_)
    · split at hc
      · rename_i hx
        obtain ⟨j, d, rfl, hj, hd, _⟩ := G.emp _ _ h1 hx
        simp only [Nat.add_sub_cancel] at hc
        rw [hj] at hc; cases hc
        rw [G.nw _ _ hj he] at hd; cases hd
      · rename_i hx
        rw [h1] at hc; cases hc
        exact hx he
    · split at hc
      · rename_i hw
        obtain ⟨d, hd, hde⟩ := G.wid _ _ h2 hw
        rw [show t - 1 + 1 = t by omega] at hd
        obtain ⟨j, d2, hj1, hj2, hd2, _⟩ := G.emp _ _ hc he
        have : j = t := by omega
        subst this
        rw [hd] at hj2; cases hj2
        rw [G.nw _ _ hd hde] at hd2; cases hd2
      · rename_i hw
        obtain ⟨j, d2, hj1, hj2, hd2, _⟩ := G.emp _ _ hc he
        have : j = t - 1 := by omega
        subst this
        rw [h2] at hj2; cases hj2
        exact hw hd2
  · exact G
end Go.Proofs.YtefpalmihdbmiaaDoor.Am
end
section
/- A terminal in plain terms: what is typed keeps it right; no program in sight. -/
set_option linter.unusedSimpArgs false
set_option linter.unusedVariables false
set_option maxHeartbeats 4000000
namespace Go.Proofs.YtefpalmihdbmiaaDoor.Am
open Go Go.RowKit Go.Proofs.Tryd
theorem GI.same {cols : Int} {l : List Cel} (G : GI cols l) {i : Nat} {c0 c : Cel} (h0 : l[i]? = some c0) (h1 : c.tx = [] ↔ c0.tx = []) (h2 : c.wd = c0.wd) : GI cols (l.set i c) := by
  have hi := (List.getElem?_eq_some_iff.1 h0).1
  have get : ∀ (k : Nat) (d : Cel), (l.set i c)[k]? = some d → ∃ d0, l[k]? = some d0 ∧ (d.tx = [] ↔ d0.tx = []) ∧ d.wd = d0.wd := fun k d hd => by
    rw [List.getElem?_set] at hd
    by_cases e : i = k
    · subst e
      rw [if_pos rfl, if_pos hi] at hd; cases hd
      exact ⟨c0, h0, h1, h2⟩
    · rw [if_neg e] at hd
      exact ⟨d, hd, Iff.rfl, rfl⟩
  have put : ∀ (k : Nat) (d0 : Cel), l[k]? = some d0 → ∃ d, (l.set i c)[k]? = some d ∧ (d.tx = [] ↔ d0.tx = []) ∧ d.wd = d0.wd := fun k d0 hd => by
    by_cases e : i = k
    · subst e
      rw [h0] at hd; cases hd
      exact ⟨c, by rw [List.getElem?_set, if_pos rfl, if_pos hi], h1, h2⟩
    · exact ⟨d0, by rw [List.getElem?_set, if_neg e]; exact hd, Iff.rfl, rfl⟩
  refine ⟨fun k d hd hx => ?_, fun k d hd hw => ?_, fun k d hd hx => ?_⟩
  · obtain ⟨d0, g0, g1, g2⟩ := get k d hd
    obtain ⟨j, e, rfl, hj, he, hm⟩ := G.emp _ _ g0 (g1.1 hx)
    obtain ⟨e2, q0, q1, q2⟩ := put j e hj
    exact ⟨j, e2, rfl, q0, by rw [q2]; exact he, hm⟩
  · obtain ⟨d0, g0, g1, g2⟩ := get k d hd
    obtain ⟨e, hj, he⟩ := G.wid _ _ g0 (by rw [← g2]; exact hw)
    obtain ⟨e2, q0, q1, q2⟩ := put _ e hj
    exact ⟨e2, q0, q1.2 he⟩
  · obtain ⟨d0, g0, g1, g2⟩ := get k d hd
    rw [g2]; exact G.nw _ _ g0 (g1.1 hx)
theorem GI.two {cols : Int} {l : List Cel} (G : GI cols l) {i : Nat} {r a : Int} (h0 : l[i]? = some (bl 0)) (h1 : l[i + 1]? = some (bl 0)) (hm : ((i + 1 : Nat) : Int) % cols ≠ 0) : GI cols ((l.set i ⟨[r], a, true⟩).set (i + 1) ⟨[], a, false⟩) := by
  have hi1 := (List.getElem?_eq_some_iff.1 h1).1
  have g : ∀ (k : Nat), ((l.set i (⟨[r], a, true⟩ : Cel)).set (i + 1) ⟨[], a, false⟩)[k]? = if k = i + 1 then some ⟨[], a, false⟩ else if k = i then some ⟨[r], a, true⟩ else l[k]? := fun k => by
    rw [List.getElem?_set, List.getElem?_set, List.length_set]
    by_cases e1 : k = i + 1
    · subst e1; rw [if_pos rfl, if_pos (by omega), if_pos rfl]
    · rw [if_neg (fun e => e1 e.symm), if_neg e1]
      by_cases e2 : k = i
      · subst e2; rw [if_pos rfl, if_pos (by omega), if_pos rfl]
      · rw [if_neg (fun e => e2 e.symm), if_neg e2]
  refine ⟨fun k d hd hx => ?_, fun k d hd hw => ?_, fun k d hd hx => ?_⟩
  · rw [g] at hd
    split at hd
    · rename_i e
      subst e
      exact ⟨i, _, rfl, by rw [g, if_neg (by omega), if_pos rfl], rfl, hm⟩
    · split at hd
      · cases hd; cases hx
      · rename_i e1 e2
        obtain ⟨j, e, rfl, hj, he, hm2⟩ := G.emp _ _ hd hx
        by_cases ej : j = i + 1
        · subst ej; rw [h1] at hj; cases hj; cases he
        · by_cases ej2 : j = i
          · omega
          · exact ⟨j, e, rfl, by rw [g, if_neg ej, if_neg ej2]; exact hj, he, hm2⟩
  · rw [g] at hd
    split at hd
    · cases hd; cases hw
    · split at hd
      · rename_i e1 e2
        subst e2
        exact ⟨_, by rw [g, if_pos rfl], rfl⟩
      · rename_i e1 e2
        obtain ⟨e, hj, he⟩ := G.wid _ _ hd hw
        by_cases ej : k + 1 = i + 1
        · omega
        · by_cases ej2 : k + 1 = i
          · rw [ej2, h0] at hj; cases hj; exact absurd he bl_tx
          · exact ⟨e, by rw [g, if_neg ej, if_neg ej2]; exact hj, he⟩
  · rw [g] at hd
    split at hd
    · cases hd; rfl
    · split at hd
      · cases hd; cases hx
      · exact G.nw _ _ hd hx
theorem wipeL_in {l : List Cel} {f t i : Nat} (hT : t ≤ l.length) (h1 : f ≤ i) (h2 : i < t) : (wipeL l f t)[i]? = some (bl 0) := by
  unfold wipeL
  rw [if_pos (by omega), setB_at, List.getElem?_eq_getElem (by omega), Option.map_some, if_pos]
  split <;> split <;> omega
theorem clampZ_bd {x n : Int} (h : 1 ≤ n) : 0 ≤ clampZ x n ∧ clampZ x n < n := by
  have M1 := imax_spec x 0
  have M2 := imin_spec (imax x 0) (n - 1)
  unfold clampZ
  omega
theorem inv_move {X : TX} (I : Inv X) (r c : Int) : Inv (moveX X r c) := by
  have h1 := I.r; have h2 := I.c
  exact ⟨I.r, I.c, I.n, clampZ_bd (by omega), clampZ_bd (by omega), I.emp, I.wid, I.nw, I.last⟩
theorem inv_put {X : TX} (I : Inv X) (r : Int) : Inv (putX X r) := by
  unfold putX
  split
  · exact ⟨I.r, I.c, I.n, I.row, I.col, I.emp, I.wid, I.nw, fun i e => by cases e⟩
  · split
    · cases hl : X.last with
      | none => simpa only using I
      | some i =>
        obtain ⟨c, hc, hx⟩ := I.last i hl
        simp only [getD_at hc]
        split
        · have G := I.gi.same hc (c := { c with tx := c.tx ++ [r] }) ⟨fun e => by simp at e, fun e => absurd e hx⟩ rfl
          have hi := (List.getElem?_eq_some_iff.1 hc).1
          refine ⟨I.r, I.c, by rw [List.length_set]; exact I.n, I.row, I.col, G.emp, G.wid, G.nw, fun j e => ?_⟩
          have : i = j := by cases e; rfl
          subst this
          exact ⟨_, by rw [List.getElem?_set, if_pos rfl, if_pos hi], by simp⟩
        · exact I
    · rename_i hs hw
      obtain ⟨A, hA, hAl, hlen, _⟩ := I.rowA
      have hw2 := widthZ_le r
      obtain ⟨w, ew⟩ : ∃ w : Nat, widthZ r = (w : Int) := ⟨(widthZ r).toNat, by omega⟩
      rw [ew] at hw hw2 ⊢
      have hc := I.c; have hcol := I.col
      have M1 := imin_spec X.col (X.cols - (w : Int))
      obtain ⟨k, hk⟩ : ∃ k : Nat, imin X.col (X.cols - (w : Int)) = (k : Int) := ⟨(imin X.col (X.cols - (w : Int))).toNat, by omega⟩
      have e1 : ((A : Int) + (k : Int)).toNat = A + k := by omega
      have G := I.gi.wipe (f := A + k) (t := A + k + w) (by omega)
      have b0 := wipeL_in (l := X.cells) (f := A + k) (t := A + k + w) (i := A + k) (by omega) (by omega) (by omega)
      have hll := wipeL_len (l := X.cells) (f := A + k) (t := A + k + w)
      have hi0 := (List.getElem?_eq_some_iff.1 b0).1
      simp only [putAt, hk, hA, e1, Int.toNat_natCast]
      by_cases h2 : (w : Int) = 2
      · have b1 := wipeL_in (l := X.cells) (f := A + k) (t := A + k + w) (i := A + k + 1) (by omega) (by omega) (by omega)
        have hmod : ((A + k + 1 : Nat) : Int) % X.cols ≠ 0 := by
          have e : ((A + k + 1 : Nat) : Int) = (k : Int) + 1 + X.row * X.cols := by rw [hA]; omega
          rw [e, Int.add_mul_emod_self_right, Int.emod_eq_of_lt (by omega) (by omega)]
          omega
        have G2 := G.two (r := r) (a := X.attr) b0 b1 hmod
        simp only [if_pos h2, decide_eq_true h2]
        refine ⟨I.r, I.c, by rw [List.length_set, List.length_set, hll]; exact I.n, I.row, clampZ_bd (by omega), G2.emp, G2.wid, G2.nw, fun j e => ?_⟩
        cases e
        exact ⟨_, by rw [List.getElem?_set, if_neg (by omega), List.getElem?_set, if_pos rfl, if_pos hi0], by simp⟩
      · have G2 := G.same b0 (c := ⟨[r], X.attr, false⟩) ⟨fun e => by simp at e, fun e => absurd e bl_tx⟩ rfl
        simp only [if_neg h2, decide_eq_false h2]
        refine ⟨I.r, I.c, by rw [List.length_set, hll]; exact I.n, I.row, clampZ_bd (by omega), G2.emp, G2.wid, G2.nw, fun j e => ?_⟩
        cases e
        exact ⟨_, by rw [List.getElem?_set, if_pos rfl, if_pos hi0], by simp⟩
end Go.Proofs.YtefpalmihdbmiaaDoor.Am
end
section
/- The program's terminal: the contract of inside, by a walk; rows that a step leaves alone. -/
set_option linter.unusedSimpArgs false
set_option linter.unusedVariables false
set_option maxHeartbeats 4000000
set_option maxRecDepth 20000
namespace Go.Proofs.YtefpalmihdbmiaaDoor.Am
open Go Go.RowKit Go.Proofs.Tryd
/-- A law's begin, with the table of ranges; all that is dirty is newer. -/
structure Env (h0 : Heap) (Fs : Nat → Prop) (h : Heap) : Prop where
  gl : Gl h0
  k : Keeps h0 h
  f : ∀ n, Fs n → h0.size ≤ n
theorem Env.ch {h0 h h' : Heap} {Fs : Nat → Prop} (E : Env h0 Fs h) (C : Ch (Rg Fs h) h h') : Env h0 Fs h' :=
  ⟨E.gl, E.k.step C fun y ⟨k, g, f⟩ => Nat.le_trans (E.f _ f) ((Ch.wf E.k).2 y k g), E.f⟩
theorem Env.at {h0 h : Heap} {Fs : Nat → Prop} (E : Env h0 Fs h) : Gl h := E.gl.keeps E.k
theorem PT.guest {h : Heap} {Fs Ms : Nat → Prop} {gs : List (Value × List Int)} {t f : Nat} {nv cv sv rv v : Value} {gr : Bool} {X : TX} {ps : List PC} {l : List Int} (Q : PT h Fs gs t nv gr X f cv sv rv ps Ms) (R : RdI prog h .i32 v l) (o : Fam h (Off Fs Ms) v) : PT h Fs ((v, l) :: gs) t nv gr X f cv sv rv ps Ms :=
  ⟨Q.var, Q.gp, Q.fv, Q.rr, Q.ro, Q.so, Q.mt, Q.mf, Q.mc, Q.ms, Q.tf, Q.ct, Q.cf, Q.stn, Q.sf, Q.cs, Q.ml, Q.mF, Q.up, fun p hp => by
    rcases List.mem_cons.1 hp with rfl | hp
    · exact ⟨R, o⟩
    · exact Q.gu p hp⟩
theorem PM.drop {h : Heap} {Fs : Nat → Prop} {gs : List (Value × List Int)} {p : Value × List Int} {t : Nat} {nv : Value} {gr : Bool} {X : TX} (P : PM h Fs (p :: gs) t nv gr X) : PM h Fs gs t nv gr X := by
  obtain ⟨f, cv, sv, rv, ps, Ms, Q⟩ := P
  exact ⟨f, cv, sv, rv, ps, Ms, Q.var, Q.gp, Q.fv, Q.rr, Q.ro, Q.so, Q.mt, Q.mf, Q.mc, Q.ms, Q.tf, Q.ct, Q.cf, Q.stn, Q.sf, Q.cs, Q.ml, Q.mF, Q.up, fun p hp => Q.gu p (List.mem_cons_of_mem _ hp)⟩
theorem PM.reads {h : Heap} {Fs : Nat → Prop} {gs : List (Value × List Int)} {p : Value × List Int} {t : Nat} {nv : Value} {gr : Bool} {X : TX} (P : PM h Fs gs t nv gr X) (hp : p ∈ gs) : RdI prog h .i32 p.1 p.2 := by
  obtain ⟨f, cv, sv, rv, ps, Ms, Q⟩ := P
  exact (Q.gu p hp).1
theorem inside_ok {h : Heap} {Fs : Nat → Prop} {gs : List (Value × List Int)} {t : Nat} {nv : Value} {X : TX} {b : Int} (P : PM h Fs gs t nv false X) (I : Inv X) (hst : X.st = 2) (hsl : X.seq.length ≤ 32) (hsb : ∀ x, x ∈ X.seq → isB x) (hb : isB b) :
    ACalls prog 64 #[pt t, .int .u8 b] h (fun y h' => y = stF t (stepX X b).st ∧ PM h' Fs gs t nv (decide ((stepX X b).st = 0)) (stepX X b) ∧ Ch (Rg Fs h) h h') := by
  refine acalls_of_W' func64 rfl (by kernel_rfl) (by kernel_rfl) (by simp [ntmps64]) ?_
  intro H
  have hn1 : ¬ X.st = 1 := by omega
  by_cases hin : 32 ≤ b ∧ b ≤ 63
  · have d1 : decide (b < 32) = false := decide_eq_false (by omega)
    have d2 : decide (63 < b) = false := decide_eq_false (by omega)
    obtain ⟨f, cv, sv, rv, ps, Ms, Q⟩ := P
    obtain ⟨l0, l1, l2, l3, l4, l5, l6, l7, l8, l9, l10, l11⟩ := Q.load
    have LS := Q.so.1.len underlying29
    by_cases h32 : X.seq.length < 32
    · have d3 : decide ((X.seq.length : Int) < 32) = true := decide_eq_true (by omega)
      have hX : stepX X b = { X with seq := X.seq ++ [b] } := by unfold stepX; rw [if_neg hn1, if_pos hst, if_pos hin, if_pos h32]
      obtain ⟨h2, e2, O2, z2, C2, _, _⟩ := Q.so.append1 (P := prog) H (t := 29) underlying29 elem5 fits5 (by decide) (xs := [.int .u8 b]) rfl (by omega)
      obtain ⟨sv', hsv⟩ : ∃ s, Value.slice (some ⟨h.size + 1, 0, none⟩) (X.seq.length + 1) 0 = s := ⟨_, rfl⟩
      have hbk : ∀ z, blkOf sv' = some z → h.size + 1 ≤ z := fun z hz => by rw [← hsv] at hz; exact blk_new z hz
      rw [hsv] at e2 O2
      have V2 := Ch.var H C2 Q.var (Q.var.notFam Q.stn)
      have htl := Q.var.lt H
      obtain ⟨h3, e3, V3, C3, z3⟩ := V2.store1 (P := prog) (t := 29) (v := sv') (i := 11) (Ch.wf C2) asz29 (by simp [tF]) O2.1.one
      have O3 := Ch.ownR C3 O2 fun y hy e => by have := hbk y hy; omega
      have C23 : Ch (fun y => y = t ∨ FamV h sv y) h h3 := (C2.mono fun y d => .inr d).then C3 fun y e => .inr (.inl e)
      have hO : OwnR prog h3 1 sv' (X.seq ++ [b]).length ((X.seq ++ [b]).map (Value.int .u8)) := by
        have := O3
        rw [List.length_append, List.length_singleton, List.map_append]; exact this
      obtain ⟨Ms', Q3⟩ := Q.seq (X' := { X with seq := X.seq ++ [b] }) H C23 (fun y d => d) V3 hO (fun z hz => .inl (by have := hbk z hz; omega)) rfl rfl
      have D3 : Ch (Rg Fs h) h h3 := C23.mono fun y d => by
        rcases d with rfl | d
        · exact (Q.var.rg Q.mt).mono Q.mF
        · exact (FamV.rg Q.ms d).mono Q.mF
      rw [hX]
      simp only [wk, wt, wl, ↓reduceIte, Nat.reduceEqDiff, Nat.reduceAdd, Nat.zero_add, not_false_eq_true, not_true_eq_false, pt, d1, d2, l11, LS, d3, e2, e3]
      refine ⟨?_, ?_, D3⟩
      · simp [stF, hst, insF, pt]
      · have : decide (X.st = 0) = false := decide_eq_false (by omega)
        rw [this]
        exact ⟨f, cv, sv', rv, ps, Ms', Q3⟩
    · have d3 : decide ((X.seq.length : Int) < 32) = false := decide_eq_false (by omega)
      have hX : stepX X b = X := by unfold stepX; rw [if_neg hn1, if_pos hst, if_pos hin, if_neg h32]
      rw [hX]
      simp only [wk, wt, wl, ↓reduceIte, Nat.reduceEqDiff, Nat.reduceAdd, Nat.zero_add, not_false_eq_true, not_true_eq_false, pt, d1, d2, l11, LS, d3]
      refine ⟨?_, ?_, (Keeps.refl H).rg⟩
      · simp [stF, hst, insF, pt]
      · have : decide (X.st = 0) = false := decide_eq_false (by omega)
        rw [this]
        exact ⟨f, cv, sv, rv, ps, Ms, Q⟩
  · have fin0 : stepX X b = { X with st := 0 } → ∀ {h1 : Heap}, PM h1 Fs gs t nv true X → Ch (Rg Fs h) h h1 → plainF t = stF t (stepX X b).st ∧ PM h1 Fs gs t nv (decide ((stepX X b).st = 0)) (stepX X b) ∧ Ch (Rg Fs h) h h1 := fun e h1 P1 C1 => by
      rw [e]; exact ⟨rfl, P1.st 0, C1⟩
    by_cases b1 : b < 32
    · have d1 := decide_eq_true b1
      have d4 : decide (64 ≤ b) = false := decide_eq_false (by omega)
      have hX : stepX X b = { X with st := 0 } := by unfold stepX; rw [if_neg hn1, if_pos hst, if_neg hin, if_neg (by omega)]
      simp only [wk, wt, wl, ↓reduceIte, Nat.reduceEqDiff, Nat.reduceAdd, Nat.zero_add, not_false_eq_true, not_true_eq_false, pt, d1, d4]
      refine (back_ok P).use ?_
      rintro _ h1 ⟨rfl, P1, C1⟩
      simp only [wk, wt, wl, ↓reduceIte, Nat.reduceEqDiff, Nat.reduceAdd, Nat.zero_add, not_false_eq_true, not_true_eq_false]
      exact fin0 hX P1 C1
    · have d1 := decide_eq_false b1
      have d2 : decide (63 < b) = true := decide_eq_true (by omega)
      have d4 : decide (64 ≤ b) = true := decide_eq_true (by omega)
      by_cases b2 : b < 127
      · have d5 := decide_eq_true b2
        have hX : stepX X b = { seqX X X.seq b with st := 0 } := by unfold stepX; rw [if_neg hn1, if_pos hst, if_neg hin, if_pos (by omega)]
        simp only [wk, wt, wl, ↓reduceIte, Nat.reduceEqDiff, Nat.reduceAdd, Nat.zero_add, not_false_eq_true, not_true_eq_false, pt, d1, d2, d4, d5]
        refine (do_ok P I hsl hsb hb).use ?_
        rintro _ h1 ⟨rfl, P1, C1⟩
        simp only [wk, wt, wl, ↓reduceIte, Nat.reduceEqDiff, Nat.reduceAdd, Nat.zero_add, not_false_eq_true, not_true_eq_false]
        refine (back_ok P1).use ?_
        rintro _ h2 ⟨rfl, P2, C2⟩
        simp only [wk, wt, wl, ↓reduceIte, Nat.reduceEqDiff, Nat.reduceAdd, Nat.zero_add, not_false_eq_true, not_true_eq_false]
        rw [hX]
        exact ⟨rfl, P2.st 0, C1.thenR C2⟩
      · have d5 := decide_eq_false b2
        have hX : stepX X b = { X with st := 0 } := by unfold stepX; rw [if_neg hn1, if_pos hst, if_neg hin, if_neg (by omega)]
        simp only [wk, wt, wl, ↓reduceIte, Nat.reduceEqDiff, Nat.reduceAdd, Nat.zero_add, not_false_eq_true, not_true_eq_false, pt, d1, d2, d4, d5]
        refine (back_ok P).use ?_
        rintro _ h1 ⟨rfl, P1, C1⟩
        simp only [wk, wt, wl, ↓reduceIte, Nat.reduceEqDiff, Nat.reduceAdd, Nat.zero_add, not_false_eq_true, not_true_eq_false]
        exact fin0 hX P1 C1
end Go.Proofs.YtefpalmihdbmiaaDoor.Am
end
section
/- The program's terminal: the contract of plain, by a walk. -/
set_option linter.unusedSimpArgs false
set_option linter.unusedVariables false
set_option maxHeartbeats 4000000
set_option maxRecDepth 20000
namespace Go.Proofs.YtefpalmihdbmiaaDoor.Am
open Go Go.RowKit Go.Proofs.Tryd
theorem isR_valid {r : Int} (h : validB r = true) : isR r := by simp [validB] at h; simp [isR]; omega
theorem Fed.isR {b l s : List Int} (H : Fed b l s) : (∀ x, x ∈ b → isB x) → ∀ r, r ∈ l → Am.isR r := by
  induction H with
  | done h => intro _ r hr; cases hr
  | @step b r n l s h t ih =>
    intro hb x hx
    rcases List.mem_cons.1 hx with rfl | hx
    · by_cases e : (x, n) = ((65533 : Int), 1)
      · cases e; simp [Am.isR]
      · exact isR_valid (nextZ_exact hb h e).1
    · exact ih (fun y hy => hb y (List.mem_of_mem_drop hy)) x hx
theorem putX_held {X : TX} {s : List Int} {r : Int} : putX { X with held := s } r = { putX X r with held := s } := by
  obtain ⟨rows, cols, cells, row, col, attr, hid, last, st, seq, held⟩ := X
  unfold putX
  split
  · rfl
  · split
    · cases last with
      | none => rfl
      | some i => simp only; split <;> rfl
    · rfl
theorem foldl_held {l : List Int} {s : List Int} : ∀ {X : TX}, l.foldl putX { X with held := s } = { l.foldl putX X with held := s } := by
  induction l with
  | nil => intro X; rfl
  | cons r l ih => intro X; simp only [List.foldl_cons]; rw [putX_held]; exact ih
theorem PT.feed {h h' : Heap} {Fs Ms : Nat → Prop} {gs : List (Value × List Int)} {t f : Nat} {nv cv sv rv rv' : Value} {gr : Bool} {X : TX} {ps : List PC} {s' : List Int} (Q : PT h Fs gs t nv gr X f cv sv rv ps Ms) (H : Wf h) (C : Ch (fun y => y = f) h h') (V : Var h' f [rv']) (R : RdI prog h' .u8 rv' s')
    (hn : ∀ z, blkOf rv' = some z → h.size ≤ z) : PT h' Fs gs t nv gr { X with held := s' } f cv sv rv' ps Ms ∧ ∀ v, (∀ z, blkOf v = some z → h.size ≤ z) → Fam h' (Off Fs Ms) v := by
  have hD : ∀ y, y = f → Rg Ms h y := fun y e => by subst e; exact Q.fv.rg Q.mf
  have fr : ∀ v, (∀ z, blkOf v = some z → h.size ≤ z) → Fam h' (Off Fs Ms) v := fun v hv z k hz g => by
    have hzl := hv z hz
    have hfl := Q.fv.lt H
    rcases C.2.2.2.1 z k hzl g with h1 | ⟨y, k0, rfl, g0, e⟩
    · exact ⟨Q.up _ h1, fun m => by have := Q.ml _ m; omega⟩
    · obtain ⟨k1, g1, e1⟩ := V.fam
      obtain ⟨k2, g2, e2⟩ := Q.fv.fam
      rw [g0] at g2; cases g2
      exact absurd (by rw [e, e2, e1]) (V.alone (x := z) (by omega) g g1)
  refine ⟨⟨Ch.var H C Q.var Q.tf, Q.gp.ch C hD (fun y hy e => Q.cf (by rw [hy, e])), V, R, fr _ hn, Ch.ownR C Q.so fun y hy e => Q.sf (by rw [hy, e]), Q.mt, Q.mf, Q.mc.ch C Q.clt, Q.ms.ch C Q.slt, Q.tf, Q.ct, Q.cf, Q.stn, Q.sf, fun y hy fy => ?_, fun n hn => Nat.lt_of_lt_of_le (Q.ml n hn) (Ch.le C), Q.mF, fun n hn => Q.up n (Nat.le_trans (Ch.le C) hn), fun p hp => ⟨Ch.rd C (Q.gu p hp).1 fun y hy d => (Q.gu p hp).2.apart (Gs := Ms) (fun n a b => a.2 b) y hy (hD y d), (Q.gu p hp).2.ch C fun z hz => ((Q.gu p hp).1.blk_lt hz).1⟩⟩, fr⟩
  rcases FamV.back C Q.slt fy with g | g
  · have := Q.clt y hy; omega
  · exact Q.cs y hy g
end Go.Proofs.YtefpalmihdbmiaaDoor.Am
end
section
/- The program's terminal: the contract of plain at bytes that are fed, by a walk. -/
set_option linter.unusedSimpArgs false
set_option linter.unusedVariables false
set_option maxHeartbeats 4000000
set_option maxRecDepth 20000
namespace Go.Proofs.YtefpalmihdbmiaaDoor.Am
open Go Go.RowKit Go.Proofs.Tryd
theorem inv_foldl {l : List Int} : ∀ {X : TX}, Inv X → Inv (l.foldl putX X) := by
  induction l with
  | nil => intro X I; exact I
  | cons r l ih => intro X I; exact ih (inv_put I r)
theorem inv_held {X : TX} (I : Inv X) (s : List Int) : Inv { X with held := s } := ⟨I.r, I.c, I.n, I.row, I.col, I.emp, I.wid, I.nw, I.last⟩
theorem bsB {h : Heap} {x : Int} : abuildSlice prog h 29 1 #[(0, .int .u8 x)] = some (.slice (some ⟨h.size, 0, none⟩) 1 2, h.new 5 [.int .u8 x]) :=
  build1 underlying29 asz5 azero5 rfl rfl
/-- Each of some runes is typed. -/
theorem putX_st {X : TX} {r : Int} : (putX X r).st = X.st := by
  obtain ⟨rows, cols, cells, row, col, attr, hid, last, st, seq, held⟩ := X
  unfold putX
  split
  · rfl
  · split
    · cases last with
      | none => rfl
      | some i => simp only; split <;> rfl
    · rfl
theorem foldl_st {l : List Int} : ∀ {X : TX}, (l.foldl putX X).st = X.st := by
  induction l with
  | nil => intro X; rfl
  | cons r l ih => intro X; rw [List.foldl_cons, ih, putX_st]
theorem plain_fed {h0 h : Heap} {Fs : Nat → Prop} {gs : List (Value × List Int)} {t : Nat} {nv : Value} {X : TX} {b : Int} (P : PM h Fs gs t nv false X) (I : Inv X) (E0 : Env h0 Fs h) (hst : X.st = 0) (hhl : X.held.length ≤ 3) (hhb : ∀ x, x ∈ X.held → isB x) (hb : isB b) (hc : 32 ≤ b ∧ b ≠ 127) :
    ACalls prog 32 #[pt t, .int .u8 b] h (fun y h' => y = stF t (stepX X b).st ∧ PM h' Fs gs t nv (decide ((stepX X b).st = 0)) (stepX X b) ∧ Ch (Rg Fs h) h h') := by
  refine acalls_of_W' func32 rfl (by kernel_rfl) (by kernel_rfl) (by simp [ntmps32]) ?_
  intro H
  obtain ⟨f, cv, sv, rv, ps, Ms, Q⟩ := P
  obtain ⟨l0, l1, l2, l3, l4, l5, l6, l7, l8, l9, l10, l11⟩ := Q.load
  have d1 : decide (32 ≤ b) = true := decide_eq_true hc.1
  have d2 : decide (¬ b = 127) = true := decide_eq_true hc.2
  have N1 := Keeps.new H 5 [.int .u8 b]
  have R1 : RdI prog (h.new 5 [.int .u8 b]) .u8 (.slice (some ⟨h.size, 0, none⟩) 1 2) [b] := Rd.new H asz5 rfl
  have Q1 := Q.keeps H N1
  simp only [wk, wt, wl, ↓reduceIte, Nat.reduceEqDiff, Nat.reduceAdd, Nat.zero_add, not_false_eq_true, not_true_eq_false, d1, d2, pt, l8, bsB]
  refine (feedN_ok (f := f) (s := X.held) (b := [b]) ⟨rv, Q1.fv, Q1.rr⟩ R1 hhb (fun x hx => by obtain rfl := List.mem_singleton.1 hx; exact hb) (by omega) (by simp)).use ?_
  rintro v h2 ⟨l, s', rv', hfed, O, hv, V2, R2, hr2, C2⟩
  obtain ⟨Q2, fr⟩ := Q1.feed (Ch.wf N1) C2 V2 R2 hr2
  have RV : RdI prog h2 .i32 v l := by have := O.1; simpa [RdI, vI] using this
  have P2 : PM h2 Fs ((v, l) :: gs) t nv false { X with held := s' } := ⟨_, _, _, _, _, _, Q2.guest RV (fr v hv)⟩
  have D2 : Ch (Rg Fs h) h h2 := N1.rg.thenR (C2.mono fun y e => by subst e; exact (Q1.fv.rg Q1.mf).mono Q1.mF)
  have E2 := E0.ch D2
  have I2 := inv_held I s'
  have hlR := hfed.isR (fun x hx => (List.mem_append.1 hx).elim (hhb x) (fun hx => by obtain rfl := List.mem_singleton.1 hx; exact hb))
  have hll := hfed.bound
  simp only [List.length_append, List.length_singleton] at hll
  obtain ⟨e1, e2⟩ := hfed.det (fedN_fed (X.held.length + 1) (X.held ++ [b]) (by simp))
  have hX : stepX X b = l.foldl putX { X with held := s' } := by
    unfold stepX
    rw [if_neg (by omega), if_neg (by omega), if_pos hc, foldl_held]
    unfold feedX
    rw [← e1, ← e2]
  have hfst : (l.foldl putX { X with held := s' }).st = 0 := by rw [foldl_st]; exact hst
  have LV := RV.len underlying44
  generalize hX1 : ({ X with held := s' } : TX) = X1 at *
  simp only [wk, wt, wl, ↓reduceIte, Nat.reduceEqDiff, Nat.reduceAdd, Nat.zero_add, not_false_eq_true, not_true_eq_false, LV]
  refine W_loop (fun tm hh => tm 0 = pt t ∧ tm 21 = v ∧ tm 22 = .int .i64 l.length ∧ Env h0 Fs hh ∧ Ch (Rg Fs h) h hh ∧ ∃ (i : Nat) (Y : TX), tm 23 = .int .i64 (i : Int) ∧ i ≤ l.length ∧ PM hh Fs ((v, l) :: gs) t nv false Y ∧ Inv Y ∧ l.foldl putX X1 = (l.drop i).foldl putX Y)
    (fun tm _ => (l.length - intOf (tm 23)).toNat) ⟨(by first | rfl | (simp only [wk, wt, wl, ↓reduceIte, Nat.reduceEqDiff, Nat.reduceAdd, Nat.zero_add, not_false_eq_true, not_true_eq_false]; done) | (simp only [wk, wt, wl, ↓reduceIte, Nat.reduceEqDiff, Nat.reduceAdd, Nat.zero_add, not_false_eq_true, not_true_eq_false]; rfl)), (by first | rfl | (simp only [wk, wt, wl, ↓reduceIte, Nat.reduceEqDiff, Nat.reduceAdd, Nat.zero_add, not_false_eq_true, not_true_eq_false]; done) | (simp only [wk, wt, wl, ↓reduceIte, Nat.reduceEqDiff, Nat.reduceAdd, Nat.zero_add, not_false_eq_true, not_true_eq_false]; rfl)), (by first | rfl | (simp only [wk, wt, wl, ↓reduceIte, Nat.reduceEqDiff, Nat.reduceAdd, Nat.zero_add, not_false_eq_true, not_true_eq_false]; done) | (simp only [wk, wt, wl, ↓reduceIte, Nat.reduceEqDiff, Nat.reduceAdd, Nat.zero_add, not_false_eq_true, not_true_eq_false]; rfl)), E2, D2, 0, X1, (by first | rfl | (simp only [wk, wt, wl, ↓reduceIte, Nat.reduceEqDiff, Nat.reduceAdd, Nat.zero_add, not_false_eq_true, not_true_eq_false]; done) | (simp only [wk, wt, wl, ↓reduceIte, Nat.reduceEqDiff, Nat.reduceAdd, Nat.zero_add, not_false_eq_true, not_true_eq_false]; rfl)), by omega, P2, I2, rfl⟩ ?_
  rintro tm hh ⟨t0, tA, tB, E, C, i, Y, tK, hi, PY, IY, hfo⟩
  simp only [wk, wt, wl, ↓reduceIte, Nat.reduceEqDiff, Nat.reduceAdd, Nat.zero_add, not_false_eq_true, not_true_eq_false, t0, tA, tB, tK]
  refine condK_dec (fun hd => ?_) (fun hd => ?_)
  · have hi1 : i < l.length := by omega
    have RV := PY.reads (p := (v, l)) List.mem_cons_self
    have IX := RV.index underlying44 asz21 (q := .i64) (i := (i : Int)) (by omega) (by simp only; omega)
    have LX := RV.at (i := i) (t := 21) underlying21 rfl hi1
    simp only [Int.toNat_natCast] at IX LX
    have hdr : l.drop i = l.getD i 0 :: l.drop (i + 1) := by rw [List.drop_eq_getElem_cons hi1]; congr 1; simp [List.getD, List.getElem?_eq_getElem hi1]
    have hxr : Am.isR (l.getD i 0) := hlR _ (by simp [List.getD, List.getElem?_eq_getElem hi1])
    rw [hdr, List.foldl_cons] at hfo
    generalize l.getD i 0 = x at *
    have wi : IntKind.i64.wrap ((i : Int) + 1) = ((i + 1 : Nat) : Int) := by rw [IntWalk.i64_in _ (by omega)]; omega
    simp only [wk, wt, wl, ↓reduceIte, Nat.reduceEqDiff, Nat.reduceAdd, Nat.zero_add, not_false_eq_true, not_true_eq_false, t0, tA, tB, tK, IX, LX]
    refine (put_ok PY IY E.at hxr).use ?_
    rintro _ h5 ⟨rfl, P5, C5⟩
    simp only [wk, wt, wl, ↓reduceIte, Nat.reduceEqDiff, Nat.reduceAdd, Nat.zero_add, not_false_eq_true, not_true_eq_false, t0, tA, tB, tK, wi, intOf_int]
    exact ⟨⟨E.ch C5, C.thenR C5, i + 1, _, rfl, by omega, P5, inv_put IY x, hfo⟩, by omega⟩
  · obtain rfl : i = l.length := by omega
    rw [List.drop_length, List.foldl_nil] at hfo
    have PY := PY.drop
    simp only [wk, wt, wl, ↓reduceIte, Nat.reduceEqDiff, Nat.reduceAdd, Nat.zero_add, not_false_eq_true, not_true_eq_false, t0]
    refine (back_ok PY).use ?_
    rintro _ h6 ⟨rfl, P6, C6⟩
    simp only [wk, wt, wl, ↓reduceIte, Nat.reduceEqDiff, Nat.reduceAdd, Nat.zero_add, not_false_eq_true, not_true_eq_false]
    have hX2 : stepX X b = Y := by rw [hX]; exact hfo
    have hYs : Y.st = 0 := by rw [← hX2, hX]; exact hfst
    rw [hX2]
    refine ⟨by rw [hYs]; rfl, by rw [hYs]; exact P6, C.thenR C6⟩
end Go.Proofs.YtefpalmihdbmiaaDoor.Am
end
section
/- The program's terminal: the contract of plain at control bytes, and of plain, by walks. -/
set_option linter.unusedSimpArgs false
set_option linter.unusedVariables false
set_option maxHeartbeats 4000000
set_option maxRecDepth 20000
namespace Go.Proofs.YtefpalmihdbmiaaDoor.Am
open Go Go.RowKit Go.Proofs.Tryd
/-- Each of some runes is typed. -/
theorem plain_ctl {h0 h : Heap} {Fs : Nat → Prop} {gs : List (Value × List Int)} {t : Nat} {nv : Value} {X : TX} {b : Int} (P : PM h Fs gs t nv false X) (I : Inv X) (E0 : Env h0 Fs h) (hst : X.st = 0) (hhl : X.held.length ≤ 3) (hb : isB b) (hc : ¬ (32 ≤ b ∧ b ≠ 127)) :
    ACalls prog 32 #[pt t, .int .u8 b] h (fun y h' => y = stF t (stepX X b).st ∧ PM h' Fs gs t nv (decide ((stepX X b).st = 0)) (stepX X b) ∧ Ch (Rg Fs h) h h') := by
  refine acalls_of_W' func32 rfl (by kernel_rfl) (by kernel_rfl) (by simp [ntmps32]) ?_
  intro H
  obtain ⟨f, cv, sv, rv, ps, Ms, Q⟩ := P
  obtain ⟨l0, l1, l2, l3, l4, l5, l6, l7, l8, l9, l10, l11⟩ := Q.load
  by_cases hb32 : 32 ≤ b
  · have d1 := decide_eq_true hb32
    have d2 : decide (¬ b = 127) = false := decide_eq_false fun e => hc ⟨hb32, e⟩
    simp only [wk, wt, wl, ↓reduceIte, Nat.reduceEqDiff, Nat.reduceAdd, Nat.zero_add, not_false_eq_true, not_true_eq_false, d1, d2, pt, l8]
    refine (flushN_ok (f := f) (s := X.held) ⟨rv, Q.fv, Q.rr⟩ (by omega)).use ?_
    rintro v h2 ⟨O, hv, V2, C2⟩
    obtain ⟨Q2, fr⟩ := Q.feed (s' := []) H C2 V2 Rd.nil0 (fun z e => by cases e)
    obtain ⟨l, hl⟩ : ∃ l, List.replicate X.held.length (65533 : Int) = l := ⟨_, rfl⟩
    have hll : l.length = X.held.length := by rw [← hl]; simp
    rw [hl] at O
    have RV : RdI prog h2 .i32 v l := by have := O.1; rw [← hll] at this; simpa [RdI, vI] using this
    have P2 : PM h2 Fs ((v, l) :: gs) t nv false { X with held := [] } := ⟨_, _, _, _, _, _, Q2.guest RV (fr v hv)⟩
    have D2 : Ch (Rg Fs h) h h2 := C2.mono fun y e => by subst e; exact (Q.fv.rg Q.mf).mono Q.mF
    have E2 := E0.ch D2
    have I2 := inv_held I []
    have hlR : ∀ r, r ∈ l → Am.isR r := fun r hr => by rw [← hl] at hr; obtain rfl := (List.mem_replicate.1 hr).2; simp [Am.isR]
    have hX : stepX X b = ctlX (flushX X) b := by unfold stepX; rw [if_neg (by omega), if_neg (by omega), if_neg hc]
    have hfst : (l.foldl putX { X with held := [] }).st = 0 := by rw [foldl_st]; exact hst
    have LV := RV.len underlying44
    generalize hX1 : ({ X with held := [] } : TX) = X1 at *
    simp only [wk, wt, wl, ↓reduceIte, Nat.reduceEqDiff, Nat.reduceAdd, Nat.zero_add, not_false_eq_true, not_true_eq_false, LV]
    refine W_loop (fun tm hh => tm 0 = pt t ∧ tm 1 = .int .u8 b ∧ tm 37 = v ∧ tm 38 = .int .i64 l.length ∧ Env h0 Fs hh ∧ Ch (Rg Fs h) h hh ∧ ∃ (i : Nat) (Y : TX), tm 39 = .int .i64 (i : Int) ∧ i ≤ l.length ∧ PM hh Fs ((v, l) :: gs) t nv false Y ∧ Inv Y ∧ l.foldl putX X1 = (l.drop i).foldl putX Y)
      (fun tm _ => (l.length - intOf (tm 39)).toNat) ⟨(by first | rfl | (simp only [wk, wt, wl, ↓reduceIte, Nat.reduceEqDiff, Nat.reduceAdd, Nat.zero_add, not_false_eq_true, not_true_eq_false]; done) | (simp only [wk, wt, wl, ↓reduceIte, Nat.reduceEqDiff, Nat.reduceAdd, Nat.zero_add, not_false_eq_true, not_true_eq_false]; rfl)), (by first | rfl | (simp only [wk, wt, wl, ↓reduceIte, Nat.reduceEqDiff, Nat.reduceAdd, Nat.zero_add, not_false_eq_true, not_true_eq_false]; done) | (simp only [wk, wt, wl, ↓reduceIte, Nat.reduceEqDiff, Nat.reduceAdd, Nat.zero_add, not_false_eq_true, not_true_eq_false]; rfl)), (by first | rfl | (simp only [wk, wt, wl, ↓reduceIte, Nat.reduceEqDiff, Nat.reduceAdd, Nat.zero_add, not_false_eq_true, not_true_eq_false]; done) | (simp only [wk, wt, wl, ↓reduceIte, Nat.reduceEqDiff, Nat.reduceAdd, Nat.zero_add, not_false_eq_true, not_true_eq_false]; rfl)), (by first | rfl | (simp only [wk, wt, wl, ↓reduceIte, Nat.reduceEqDiff, Nat.reduceAdd, Nat.zero_add, not_false_eq_true, not_true_eq_false]; done) | (simp only [wk, wt, wl, ↓reduceIte, Nat.reduceEqDiff, Nat.reduceAdd, Nat.zero_add, not_false_eq_true, not_true_eq_false]; rfl)), E2, D2, 0, X1, (by first | rfl | (simp only [wk, wt, wl, ↓reduceIte, Nat.reduceEqDiff, Nat.reduceAdd, Nat.zero_add, not_false_eq_true, not_true_eq_false]; done) | (simp only [wk, wt, wl, ↓reduceIte, Nat.reduceEqDiff, Nat.reduceAdd, Nat.zero_add, not_false_eq_true, not_true_eq_false]; rfl)), by omega, P2, I2, rfl⟩ ?_
    rintro tm hh ⟨t0, t1, tA, tB, E, C, i, Y, tK, hi, PY, IY, hfo⟩
    simp only [wk, wt, wl, ↓reduceIte, Nat.reduceEqDiff, Nat.reduceAdd, Nat.zero_add, not_false_eq_true, not_true_eq_false, t0, t1, tA, tB, tK]
    refine condK_dec (fun hd => ?_) (fun hd => ?_)
    · have hi1 : i < l.length := by omega
      have RV := PY.reads (p := (v, l)) List.mem_cons_self
      have IX := RV.index underlying44 asz21 (q := .i64) (i := (i : Int)) (by omega) (by simp only; omega)
      have LX := RV.at (i := i) (t := 21) underlying21 rfl hi1
      simp only [Int.toNat_natCast] at IX LX
      have hdr : l.drop i = l.getD i 0 :: l.drop (i + 1) := by rw [List.drop_eq_getElem_cons hi1]; congr 1; simp [List.getD, List.getElem?_eq_getElem hi1]
      have hxr : Am.isR (l.getD i 0) := hlR _ (by simp [List.getD, List.getElem?_eq_getElem hi1])
      rw [hdr, List.foldl_cons] at hfo
      generalize l.getD i 0 = x at *
      have wi : IntKind.i64.wrap ((i : Int) + 1) = ((i + 1 : Nat) : Int) := by rw [IntWalk.i64_in _ (by omega)]; omega
      simp only [wk, wt, wl, ↓reduceIte, Nat.reduceEqDiff, Nat.reduceAdd, Nat.zero_add, not_false_eq_true, not_true_eq_false, t0, t1, tA, tB, tK, IX, LX]
      refine (put_ok PY IY E.at hxr).use ?_
      rintro _ h5 ⟨rfl, P5, C5⟩
      simp only [wk, wt, wl, ↓reduceIte, Nat.reduceEqDiff, Nat.reduceAdd, Nat.zero_add, not_false_eq_true, not_true_eq_false, t0, t1, tA, tB, tK, wi, intOf_int]
      exact ⟨⟨E.ch C5, C.thenR C5, i + 1, _, rfl, by omega, P5, inv_put IY x, hfo⟩, by omega⟩
    · obtain rfl : i = l.length := by omega
      rw [List.drop_length, List.foldl_nil] at hfo
      have PY := PY.drop
      obtain ⟨f9, cv9, sv9, rv9, ps9, Ms9, Q9⟩ := PY
      obtain ⟨h6, e6, V6, C6, z6⟩ := Q9.var.store1 (P := prog) (t := 58) (v := .pointer none) (i := 7) (Ch.wf C) asz58 (by simp [tF]) rfl
      have Q6 : PT h6 Fs gs t nv false { Y with last := none } f9 cv9 sv9 rv9 ps9 Ms9 := Q9.own (Ch.wf C) C6 V6 rfl rfl rfl
      have D6 := C.thenR (Q9.dirtyT C6)
      have hZ : flushX X = { Y with last := none } := by
        have e := foldl_held (l := l) (s := []) (X := X)
        rw [← hfo, ← hX1, e]
        simp only [flushX, hl]
      have hst2 : ({ Y with last := none } : TX).st = 0 := by show Y.st = 0; rw [← hfo]; exact hfst
      have IZ : Inv { Y with last := none } := ⟨IY.r, IY.c, IY.n, IY.row, IY.col, IY.emp, IY.wid, IY.nw, fun i e => by cases e⟩
      rw [hZ] at hX
      clear hZ hfo
      generalize hZZ : ({ Y with last := none } : TX) = Z at *
      have PZ : PM h6 Fs gs t nv false Z := ⟨_, _, _, _, _, _, Q6⟩
      obtain ⟨m0, m1, m2, m3, m4, m5, m6, m7, m8, m9, m10, m11⟩ := Q6.load
      have hrow := IZ.row
      have hcol := IZ.col
      have hrr := IZ.r
      have hcc := IZ.c
      have fin : ∀ {W : TX} {h7 h8 : Heap}, stepX X b = W → W.st = 0 → Ch (Rg Fs h6) h6 h7 → PM h8 Fs gs t nv true W → Ch (Rg Fs h7) h7 h8 → plainF t = stF t (stepX X b).st ∧ PM h8 Fs gs t nv (decide ((stepX X b).st = 0)) (stepX X b) ∧ Ch (Rg Fs h) h h8 := fun e es C7 P8 C8 => by
        rw [e, es]
        exact ⟨rfl, P8, (D6.thenR C7).thenR C8⟩
      by_cases b27 : b = 27
      · have f27 := decide_eq_true b27
        have hW : stepX X b = { Z with st := 1 } := by rw [hX]; unfold ctlX; rw [if_pos b27]
        simp only [wk, wt, wl, ↓reduceIte, Nat.reduceEqDiff, Nat.reduceAdd, Nat.zero_add, not_false_eq_true, not_true_eq_false, t0, t1, pt, e6, f27]
        rw [hW]
        exact ⟨rfl, PZ.st 1, D6⟩
      · have f27 := decide_eq_false b27
        by_cases b13 : b = 13
        · have f13 := decide_eq_true b13
          have hW : stepX X b = { Z with col := 0 } := by rw [hX]; unfold ctlX; rw [if_neg b27, if_pos b13]
          obtain ⟨h7, e7, V7, C7, z7⟩ := Q6.var.store1 (P := prog) (t := 3) (v := .int .i64 0) (i := 4) (Ch.wf C6) asz3 (by simp [tF]) rfl
          have Q7 : PT h7 Fs gs t nv false { Z with col := 0 } f9 cv9 sv9 rv9 ps9 Ms9 := Q6.own (Ch.wf C6) C7 V7 rfl rfl rfl
          simp only [wk, wt, wl, ↓reduceIte, Nat.reduceEqDiff, Nat.reduceAdd, Nat.zero_add, not_false_eq_true, not_true_eq_false, t0, t1, pt, e6, f27, f13, e7]
          refine (back_ok (⟨_, _, _, _, _, _, Q7⟩ : PM h7 Fs gs t nv false { Z with col := 0 })).use ?_
          rintro _ h8 ⟨rfl, P8, C8⟩
          simp only [wk, wt, wl, ↓reduceIte, Nat.reduceEqDiff, Nat.reduceAdd, Nat.zero_add, not_false_eq_true, not_true_eq_false]
          exact fin hW hst2 (Q6.dirtyT C7) P8 C8
        · have f13 := decide_eq_false b13
          by_cases b10 : b = 10
          · have f10 := decide_eq_true b10
            have hW : stepX X b = moveX Z (Z.row + 1) Z.col := by rw [hX]; unfold ctlX; rw [if_neg b27, if_neg b13, if_pos b10]
            have w1 : IntKind.i64.wrap (Z.row + 1) = Z.row + 1 := IntWalk.i64_in _ (by omega)
            simp only [wk, wt, wl, ↓reduceIte, Nat.reduceEqDiff, Nat.reduceAdd, Nat.zero_add, not_false_eq_true, not_true_eq_false, t0, t1, pt, e6, f27, f13, f10]
            refine adraw_order [(0, false), (1, false), (2, false), (3, false), (4, false), (5, false), (6, false), (7, false), (8, false), (9, false), (10, false), (11, false), (12, false)] mixed (by kernel_rfl) (by kernel_rfl) (by kernel_rfl) (by with_reducible repeat (first | exact PF_retK | refine PF_thenK ?_ | refine PF_blockK ?_)) ?_
            simp only [wk, wt, wl, ↓reduceIte, Nat.reduceEqDiff, Nat.reduceAdd, Nat.zero_add, not_false_eq_true, not_true_eq_false, dK_t, pt, t0, t1, m3, m4, w1]
            refine (move_ok PZ hrr hcc).use ?_
            rintro _ h7 ⟨rfl, P7, C7⟩
            simp only [wk, wt, wl, ↓reduceIte, Nat.reduceEqDiff, Nat.reduceAdd, Nat.zero_add, not_false_eq_true, not_true_eq_false, t0, pt]
            refine (back_ok P7).use ?_
            rintro _ h8 ⟨rfl, P8, C8⟩
            simp only [wk, wt, wl, ↓reduceIte, Nat.reduceEqDiff, Nat.reduceAdd, Nat.zero_add, not_false_eq_true, not_true_eq_false]
            exact fin hW hst2 C7 P8 C8
          · have f10 := decide_eq_false b10
            by_cases b8 : b = 8
            · have f8 := decide_eq_true b8
              have hW : stepX X b = moveX Z Z.row (Z.col - 1) := by rw [hX]; unfold ctlX; rw [if_neg b27, if_neg b13, if_neg b10, if_pos b8]
              have w1 : IntKind.i64.wrap (Z.col - 1) = Z.col - 1 := IntWalk.i64_in _ (by omega)
              simp only [wk, wt, wl, ↓reduceIte, Nat.reduceEqDiff, Nat.reduceAdd, Nat.zero_add, not_false_eq_true, not_true_eq_false, t0, t1, pt, e6, f27, f13, f10, f8]
              refine adraw_order [(0, false), (1, false), (2, false), (3, false), (4, false), (5, false), (6, false), (7, false), (8, false), (9, false), (10, false), (11, false), (12, false)] mixed (by kernel_rfl) (by kernel_rfl) (by kernel_rfl) (by with_reducible repeat (first | exact PF_retK | refine PF_thenK ?_ | refine PF_blockK ?_)) ?_
              simp only [wk, wt, wl, ↓reduceIte, Nat.reduceEqDiff, Nat.reduceAdd, Nat.zero_add, not_false_eq_true, not_true_eq_false, dK_t, pt, t0, t1, m3, m4, w1]
              refine (move_ok PZ hrr hcc).use ?_
              rintro _ h7 ⟨rfl, P7, C7⟩
              simp only [wk, wt, wl, ↓reduceIte, Nat.reduceEqDiff, Nat.reduceAdd, Nat.zero_add, not_false_eq_true, not_true_eq_false, t0, pt]
              refine (back_ok P7).use ?_
              rintro _ h8 ⟨rfl, P8, C8⟩
              simp only [wk, wt, wl, ↓reduceIte, Nat.reduceEqDiff, Nat.reduceAdd, Nat.zero_add, not_false_eq_true, not_true_eq_false]
              exact fin hW hst2 C7 P8 C8
            · have f8 := decide_eq_false b8
              have hW : stepX X b = Z := by rw [hX]; unfold ctlX; rw [if_neg b27, if_neg b13, if_neg b10, if_neg b8]
              simp only [wk, wt, wl, ↓reduceIte, Nat.reduceEqDiff, Nat.reduceAdd, Nat.zero_add, not_false_eq_true, not_true_eq_false, t0, t1, pt, e6, f27, f13, f10, f8]
              refine (back_ok PZ).use ?_
              rintro _ h8 ⟨rfl, P8, C8⟩
              simp only [wk, wt, wl, ↓reduceIte, Nat.reduceEqDiff, Nat.reduceAdd, Nat.zero_add, not_false_eq_true, not_true_eq_false]
              exact fin hW hst2 (Keeps.refl (Ch.wf C6)).rg P8 C8
  · have d1 := decide_eq_false hb32
    simp only [wk, wt, wl, ↓reduceIte, Nat.reduceEqDiff, Nat.reduceAdd, Nat.zero_add, not_false_eq_true, not_true_eq_false, d1, pt, l8]
    refine (flushN_ok (f := f) (s := X.held) ⟨rv, Q.fv, Q.rr⟩ (by omega)).use ?_
    rintro v h2 ⟨O, hv, V2, C2⟩
    obtain ⟨Q2, fr⟩ := Q.feed (s' := []) H C2 V2 Rd.nil0 (fun z e => by cases e)
    obtain ⟨l, hl⟩ : ∃ l, List.replicate X.held.length (65533 : Int) = l := ⟨_, rfl⟩
    have hll : l.length = X.held.length := by rw [← hl]; simp
    rw [hl] at O
    have RV : RdI prog h2 .i32 v l := by have := O.1; rw [← hll] at this; simpa [RdI, vI] using this
    have P2 : PM h2 Fs ((v, l) :: gs) t nv false { X with held := [] } := ⟨_, _, _, _, _, _, Q2.guest RV (fr v hv)⟩
    have D2 : Ch (Rg Fs h) h h2 := C2.mono fun y e => by subst e; exact (Q.fv.rg Q.mf).mono Q.mF
    have E2 := E0.ch D2
    have I2 := inv_held I []
    have hlR : ∀ r, r ∈ l → Am.isR r := fun r hr => by rw [← hl] at hr; obtain rfl := (List.mem_replicate.1 hr).2; simp [Am.isR]
    have hX : stepX X b = ctlX (flushX X) b := by unfold stepX; rw [if_neg (by omega), if_neg (by omega), if_neg hc]
    have hfst : (l.foldl putX { X with held := [] }).st = 0 := by rw [foldl_st]; exact hst
    have LV := RV.len underlying44
    generalize hX1 : ({ X with held := [] } : TX) = X1 at *
    simp only [wk, wt, wl, ↓reduceIte, Nat.reduceEqDiff, Nat.reduceAdd, Nat.zero_add, not_false_eq_true, not_true_eq_false, LV]
    refine W_loop (fun tm hh => tm 0 = pt t ∧ tm 1 = .int .u8 b ∧ tm 37 = v ∧ tm 38 = .int .i64 l.length ∧ Env h0 Fs hh ∧ Ch (Rg Fs h) h hh ∧ ∃ (i : Nat) (Y : TX), tm 39 = .int .i64 (i : Int) ∧ i ≤ l.length ∧ PM hh Fs ((v, l) :: gs) t nv false Y ∧ Inv Y ∧ l.foldl putX X1 = (l.drop i).foldl putX Y)
      (fun tm _ => (l.length - intOf (tm 39)).toNat) ⟨(by first | rfl | (simp only [wk, wt, wl, ↓reduceIte, Nat.reduceEqDiff, Nat.reduceAdd, Nat.zero_add, not_false_eq_true, not_true_eq_false]; done) | (simp only [wk, wt, wl, ↓reduceIte, Nat.reduceEqDiff, Nat.reduceAdd, Nat.zero_add, not_false_eq_true, not_true_eq_false]; rfl)), (by first | rfl | (simp only [wk, wt, wl, ↓reduceIte, Nat.reduceEqDiff, Nat.reduceAdd, Nat.zero_add, not_false_eq_true, not_true_eq_false]; done) | (simp only [wk, wt, wl, ↓reduceIte, Nat.reduceEqDiff, Nat.reduceAdd, Nat.zero_add, not_false_eq_true, not_true_eq_false]; rfl)), (by first | rfl | (simp only [wk, wt, wl, ↓reduceIte, Nat.reduceEqDiff, Nat.reduceAdd, Nat.zero_add, not_false_eq_true, not_true_eq_false]; done) | (simp only [wk, wt, wl, ↓reduceIte, Nat.reduceEqDiff, Nat.reduceAdd, Nat.zero_add, not_false_eq_true, not_true_eq_false]; rfl)), (by first | rfl | (simp only [wk, wt, wl, ↓reduceIte, Nat.reduceEqDiff, Nat.reduceAdd, Nat.zero_add, not_false_eq_true, not_true_eq_false]; done) | (simp only [wk, wt, wl, ↓reduceIte, Nat.reduceEqDiff, Nat.reduceAdd, Nat.zero_add, not_false_eq_true, not_true_eq_false]; rfl)), E2, D2, 0, X1, (by first | rfl | (simp only [wk, wt, wl, ↓reduceIte, Nat.reduceEqDiff, Nat.reduceAdd, Nat.zero_add, not_false_eq_true, not_true_eq_false]; done) | (simp only [wk, wt, wl, ↓reduceIte, Nat.reduceEqDiff, Nat.reduceAdd, Nat.zero_add, not_false_eq_true, not_true_eq_false]; rfl)), by omega, P2, I2, rfl⟩ ?_
    rintro tm hh ⟨t0, t1, tA, tB, E, C, i, Y, tK, hi, PY, IY, hfo⟩
    simp only [wk, wt, wl, ↓reduceIte, Nat.reduceEqDiff, Nat.reduceAdd, Nat.zero_add, not_false_eq_true, not_true_eq_false, t0, t1, tA, tB, tK]
    refine condK_dec (fun hd => ?_) (fun hd => ?_)
    · have hi1 : i < l.length := by omega
      have RV := PY.reads (p := (v, l)) List.mem_cons_self
      have IX := RV.index underlying44 asz21 (q := .i64) (i := (i : Int)) (by omega) (by simp only; omega)
      have LX := RV.at (i := i) (t := 21) underlying21 rfl hi1
      simp only [Int.toNat_natCast] at IX LX
      have hdr : l.drop i = l.getD i 0 :: l.drop (i + 1) := by rw [List.drop_eq_getElem_cons hi1]; congr 1; simp [List.getD, List.getElem?_eq_getElem hi1]
      have hxr : Am.isR (l.getD i 0) := hlR _ (by simp [List.getD, List.getElem?_eq_getElem hi1])
      rw [hdr, List.foldl_cons] at hfo
      generalize l.getD i 0 = x at *
      have wi : IntKind.i64.wrap ((i : Int) + 1) = ((i + 1 : Nat) : Int) := by rw [IntWalk.i64_in _ (by omega)]; omega
      simp only [wk, wt, wl, ↓reduceIte, Nat.reduceEqDiff, Nat.reduceAdd, Nat.zero_add, not_false_eq_true, not_true_eq_false, t0, t1, tA, tB, tK, IX, LX]
      refine (put_ok PY IY E.at hxr).use ?_
      rintro _ h5 ⟨rfl, P5, C5⟩
      simp only [wk, wt, wl, ↓reduceIte, Nat.reduceEqDiff, Nat.reduceAdd, Nat.zero_add, not_false_eq_true, not_true_eq_false, t0, t1, tA, tB, tK, wi, intOf_int]
      exact ⟨⟨E.ch C5, C.thenR C5, i + 1, _, rfl, by omega, P5, inv_put IY x, hfo⟩, by omega⟩
    · obtain rfl : i = l.length := by omega
      rw [List.drop_length, List.foldl_nil] at hfo
      have PY := PY.drop
      obtain ⟨f9, cv9, sv9, rv9, ps9, Ms9, Q9⟩ := PY
      obtain ⟨h6, e6, V6, C6, z6⟩ := Q9.var.store1 (P := prog) (t := 58) (v := .pointer none) (i := 7) (Ch.wf C) asz58 (by simp [tF]) rfl
      have Q6 : PT h6 Fs gs t nv false { Y with last := none } f9 cv9 sv9 rv9 ps9 Ms9 := Q9.own (Ch.wf C) C6 V6 rfl rfl rfl
      have D6 := C.thenR (Q9.dirtyT C6)
      have hZ : flushX X = { Y with last := none } := by
        have e := foldl_held (l := l) (s := []) (X := X)
        rw [← hfo, ← hX1, e]
        simp only [flushX, hl]
      have hst2 : ({ Y with last := none } : TX).st = 0 := by show Y.st = 0; rw [← hfo]; exact hfst
      have IZ : Inv { Y with last := none } := ⟨IY.r, IY.c, IY.n, IY.row, IY.col, IY.emp, IY.wid, IY.nw, fun i e => by cases e⟩
      rw [hZ] at hX
      clear hZ hfo
      generalize hZZ : ({ Y with last := none } : TX) = Z at *
      have PZ : PM h6 Fs gs t nv false Z := ⟨_, _, _, _, _, _, Q6⟩
      obtain ⟨m0, m1, m2, m3, m4, m5, m6, m7, m8, m9, m10, m11⟩ := Q6.load
      have hrow := IZ.row
      have hcol := IZ.col
      have hrr := IZ.r
      have hcc := IZ.c
      have fin : ∀ {W : TX} {h7 h8 : Heap}, stepX X b = W → W.st = 0 → Ch (Rg Fs h6) h6 h7 → PM h8 Fs gs t nv true W → Ch (Rg Fs h7) h7 h8 → plainF t = stF t (stepX X b).st ∧ PM h8 Fs gs t nv (decide ((stepX X b).st = 0)) (stepX X b) ∧ Ch (Rg Fs h) h h8 := fun e es C7 P8 C8 => by
        rw [e, es]
        exact ⟨rfl, P8, (D6.thenR C7).thenR C8⟩
      by_cases b27 : b = 27
      · have f27 := decide_eq_true b27
        have hW : stepX X b = { Z with st := 1 } := by rw [hX]; unfold ctlX; rw [if_pos b27]
        simp only [wk, wt, wl, ↓reduceIte, Nat.reduceEqDiff, Nat.reduceAdd, Nat.zero_add, not_false_eq_true, not_true_eq_false, t0, t1, pt, e6, f27]
        rw [hW]
        exact ⟨rfl, PZ.st 1, D6⟩
      · have f27 := decide_eq_false b27
        by_cases b13 : b = 13
        · have f13 := decide_eq_true b13
          have hW : stepX X b = { Z with col := 0 } := by rw [hX]; unfold ctlX; rw [if_neg b27, if_pos b13]
          obtain ⟨h7, e7, V7, C7, z7⟩ := Q6.var.store1 (P := prog) (t := 3) (v := .int .i64 0) (i := 4) (Ch.wf C6) asz3 (by simp [tF]) rfl
          have Q7 : PT h7 Fs gs t nv false { Z with col := 0 } f9 cv9 sv9 rv9 ps9 Ms9 := Q6.own (Ch.wf C6) C7 V7 rfl rfl rfl
          simp only [wk, wt, wl, ↓reduceIte, Nat.reduceEqDiff, Nat.reduceAdd, Nat.zero_add, not_false_eq_true, not_true_eq_false, t0, t1, pt, e6, f27, f13, e7]
          refine (back_ok (⟨_, _, _, _, _, _, Q7⟩ : PM h7 Fs gs t nv false { Z with col := 0 })).use ?_
          rintro _ h8 ⟨rfl, P8, C8⟩
          simp only [wk, wt, wl, ↓reduceIte, Nat.reduceEqDiff, Nat.reduceAdd, Nat.zero_add, not_false_eq_true, not_true_eq_false]
          exact fin hW hst2 (Q6.dirtyT C7) P8 C8
        · have f13 := decide_eq_false b13
          by_cases b10 : b = 10
          · have f10 := decide_eq_true b10
            have hW : stepX X b = moveX Z (Z.row + 1) Z.col := by rw [hX]; unfold ctlX; rw [if_neg b27, if_neg b13, if_pos b10]
            have w1 : IntKind.i64.wrap (Z.row + 1) = Z.row + 1 := IntWalk.i64_in _ (by omega)
            simp only [wk, wt, wl, ↓reduceIte, Nat.reduceEqDiff, Nat.reduceAdd, Nat.zero_add, not_false_eq_true, not_true_eq_false, t0, t1, pt, e6, f27, f13, f10]
            refine adraw_order [(0, false), (1, false), (2, false), (3, false), (4, false), (5, false), (6, false), (7, false), (8, false), (9, false), (10, false), (11, false), (12, false)] mixed (by kernel_rfl) (by kernel_rfl) (by kernel_rfl) (by with_reducible repeat (first | exact PF_retK | refine PF_thenK ?_ | refine PF_blockK ?_)) ?_
            simp only [wk, wt, wl, ↓reduceIte, Nat.reduceEqDiff, Nat.reduceAdd, Nat.zero_add, not_false_eq_true, not_true_eq_false, dK_t, pt, t0, t1, m3, m4, w1]
            refine (move_ok PZ hrr hcc).use ?_
            rintro _ h7 ⟨rfl, P7, C7⟩
            simp only [wk, wt, wl, ↓reduceIte, Nat.reduceEqDiff, Nat.reduceAdd, Nat.zero_add, not_false_eq_true, not_true_eq_false, t0, pt]
            refine (back_ok P7).use ?_
            rintro _ h8 ⟨rfl, P8, C8⟩
            simp only [wk, wt, wl, ↓reduceIte, Nat.reduceEqDiff, Nat.reduceAdd, Nat.zero_add, not_false_eq_true, not_true_eq_false]
            exact fin hW hst2 C7 P8 C8
          · have f10 := decide_eq_false b10
            by_cases b8 : b = 8
            · have f8 := decide_eq_true b8
              have hW : stepX X b = moveX Z Z.row (Z.col - 1) := by rw [hX]; unfold ctlX; rw [if_neg b27, if_neg b13, if_neg b10, if_pos b8]
              have w1 : IntKind.i64.wrap (Z.col - 1) = Z.col - 1 := IntWalk.i64_in _ (by omega)
              simp only [wk, wt, wl, ↓reduceIte, Nat.reduceEqDiff, Nat.reduceAdd, Nat.zero_add, not_false_eq_true, not_true_eq_false, t0, t1, pt, e6, f27, f13, f10, f8]
              refine adraw_order [(0, false), (1, false), (2, false), (3, false), (4, false), (5, false), (6, false), (7, false), (8, false), (9, false), (10, false), (11, false), (12, false)] mixed (by kernel_rfl) (by kernel_rfl) (by kernel_rfl) (by with_reducible repeat (first | exact PF_retK | refine PF_thenK ?_ | refine PF_blockK ?_)) ?_
              simp only [wk, wt, wl, ↓reduceIte, Nat.reduceEqDiff, Nat.reduceAdd, Nat.zero_add, not_false_eq_true, not_true_eq_false, dK_t, pt, t0, t1, m3, m4, w1]
              refine (move_ok PZ hrr hcc).use ?_
              rintro _ h7 ⟨rfl, P7, C7⟩
              simp only [wk, wt, wl, ↓reduceIte, Nat.reduceEqDiff, Nat.reduceAdd, Nat.zero_add, not_false_eq_true, not_true_eq_false, t0, pt]
              refine (back_ok P7).use ?_
              rintro _ h8 ⟨rfl, P8, C8⟩
              simp only [wk, wt, wl, ↓reduceIte, Nat.reduceEqDiff, Nat.reduceAdd, Nat.zero_add, not_false_eq_true, not_true_eq_false]
              exact fin hW hst2 C7 P8 C8
            · have f8 := decide_eq_false b8
              have hW : stepX X b = Z := by rw [hX]; unfold ctlX; rw [if_neg b27, if_neg b13, if_neg b10, if_neg b8]
              simp only [wk, wt, wl, ↓reduceIte, Nat.reduceEqDiff, Nat.reduceAdd, Nat.zero_add, not_false_eq_true, not_true_eq_false, t0, t1, pt, e6, f27, f13, f10, f8]
              refine (back_ok PZ).use ?_
              rintro _ h8 ⟨rfl, P8, C8⟩
              simp only [wk, wt, wl, ↓reduceIte, Nat.reduceEqDiff, Nat.reduceAdd, Nat.zero_add, not_false_eq_true, not_true_eq_false]
              exact fin hW hst2 (Keeps.refl (Ch.wf C6)).rg P8 C8
end Go.Proofs.YtefpalmihdbmiaaDoor.Am
end
section
/- A terminal in plain terms: each byte keeps it right; no program in sight. -/
set_option linter.unusedSimpArgs false
set_option linter.unusedVariables false
set_option maxHeartbeats 4000000
namespace Go.Proofs.YtefpalmihdbmiaaDoor.Am
open Go Go.RowKit Go.Proofs.Tryd
theorem inv_st {X : TX} (I : Inv X) (s : Nat) (q : List Int) : Inv { X with st := s, seq := q } := ⟨I.r, I.c, I.n, I.row, I.col, I.emp, I.wid, I.nw, I.last⟩
theorem inv_nolast {X : TX} (I : Inv X) : Inv { X with last := none } := ⟨I.r, I.c, I.n, I.row, I.col, I.emp, I.wid, I.nw, fun i e => by cases e⟩
/-- Cells are wiped where none was typed last. -/
theorem inv_wipe {X : TX} (I : Inv X) (hl : X.last = none) {F T : Nat} (hT : T ≤ X.cells.length) : Inv { X with cells := wipeL X.cells F T } := by
  have G := I.gi.wipe (f := F) (t := T) hT
  exact ⟨I.r, I.c, by rw [show ({ X with cells := wipeL X.cells F T } : TX).cells.length = X.cells.length from wipeL_len]; exact I.n, I.row, I.col, G.emp, G.wid, G.nw, fun i e => by rw [show ({ X with cells := wipeL X.cells F T } : TX).last = X.last from rfl, hl] at e; cases e⟩
theorem inv_erase {X : TX} (I : Inv X) (hl : X.last = none) {q : Int} {F T : Nat} (hT : T ≤ X.cells.length) : Inv (eraseX X q F T) := by
  obtain ⟨A, hA, hAl, hlen, _⟩ := I.rowA
  have hcol := I.col
  unfold eraseX
  simp only [Int.toNat_natCast]
  split
  · exact inv_wipe I hl hT
  · split
    · exact inv_wipe I hl (by rw [hA]; omega)
    · split
      · exact inv_wipe I hl hT
      · exact I
theorem inv_do {X : TX} (I : Inv X) (hl : X.last = none) (l : List Int) (b : Int) : Inv (doX X l b) := by
  obtain ⟨A, hA, hAl, hlen, _⟩ := I.rowA
  have hc := I.c
  obtain ⟨cc, hcc⟩ : ∃ c : Nat, X.cols = (c : Int) := ⟨X.cols.toNat, by omega⟩
  have hA2 : (X.row + 1) * X.cols = ((A + cc : Nat) : Int) := by rw [Int.add_mul, Int.one_mul, hA]; omega
  unfold doX
  simp only
  split
  · split
    · exact ⟨I.r, I.c, I.n, I.row, I.col, I.emp, I.wid, I.nw, I.last⟩
    · exact I
  · split
    · exact ⟨I.r, I.c, I.n, I.row, I.col, I.emp, I.wid, I.nw, I.last⟩
    · split
      · exact inv_move I _ _
      · split
        · exact inv_move I _ _
        · split
          · exact inv_move I _ _
          · split
            · exact inv_move I _ _
            · split
              · exact inv_move I _ _
              · split
                · exact inv_move I _ _
                · split
                  · exact inv_erase (F := 0) I hl (Nat.le_refl _)
                  · split
                    · rw [hA, hA2]; exact inv_erase I hl (by omega)
                    · exact I
/-- What a terminal is between bytes. -/
structure Good (X : TX) : Prop where
  inv : Inv X
  st : X.st ≤ 2
  sl : X.seq.length ≤ 32
  sb : ∀ x, x ∈ X.seq → isB x
  hl : X.held.length ≤ 3
  hb : ∀ x, x ∈ X.held → isB x
  ln : X.st ≠ 0 → X.last = none
theorem doX_keeps {X : TX} {l : List Int} {b : Int} : (doX X l b).seq = X.seq ∧ (doX X l b).held = X.held ∧ (doX X l b).last = X.last := by
  unfold doX
  simp only
  (repeat' split) <;> first | exact ⟨rfl, rfl, rfl⟩ | (unfold eraseX; simp only; (repeat' split) <;> exact ⟨rfl, rfl, rfl⟩)
theorem foldl_seq {l : List Int} : ∀ {X : TX}, (l.foldl putX X).seq = X.seq ∧ (l.foldl putX X).held = X.held := by
  have one : ∀ {X : TX} {r : Int}, (putX X r).seq = X.seq ∧ (putX X r).held = X.held := by
    intro X r
    obtain ⟨rows, cols, cells, row, col, attr, hid, last, st, seq, held⟩ := X
    unfold putX
    split
    · exact ⟨rfl, rfl⟩
    · split
      · cases last with
        | none => exact ⟨rfl, rfl⟩
        | some i => simp only; split <;> exact ⟨rfl, rfl⟩
      · exact ⟨rfl, rfl⟩
  induction l with
  | nil => intro X; exact ⟨rfl, rfl⟩
  | cons r l ih => intro X; rw [List.foldl_cons, ih.1, ih.2]; exact one
end Go.Proofs.YtefpalmihdbmiaaDoor.Am
end
section
/- A terminal in plain terms: each byte keeps it good; no program in sight. -/
set_option linter.unusedSimpArgs false
set_option linter.unusedVariables false
set_option maxHeartbeats 4000000
namespace Go.Proofs.YtefpalmihdbmiaaDoor.Am
open Go Go.RowKit Go.Proofs.Tryd
theorem good_seqX {X : TX} (G : Good X) (h2 : X.st = 2) (s : List Int) (b : Int) : Good { seqX X s b with st := 0 } := by
  have hl := G.ln (by omega)
  unfold seqX
  split
  · exact ⟨inv_st G.inv 0 X.seq, by show (0 : Nat) ≤ 2; omega, G.sl, G.sb, G.hl, G.hb, fun e => absurd rfl e⟩
  · split
    · rename_i l _ _
      obtain ⟨k1, k2, k3⟩ := doX_keeps (X := X) (l := l) (b := b)
      have I := inv_do G.inv hl l b
      exact ⟨inv_st I 0 (doX X l b).seq, by show (0 : Nat) ≤ 2; omega, by show (doX X l b).seq.length ≤ 32; rw [k1]; exact G.sl, by show ∀ x, x ∈ (doX X l b).seq → isB x; rw [k1]; exact G.sb, by show (doX X l b).held.length ≤ 3; rw [k2]; exact G.hl, by show ∀ x, x ∈ (doX X l b).held → isB x; rw [k2]; exact G.hb, fun e => absurd rfl e⟩
    · exact ⟨inv_st G.inv 0 X.seq, by show (0 : Nat) ≤ 2; omega, G.sl, G.sb, G.hl, G.hb, fun e => absurd rfl e⟩
theorem good_feed {X : TX} (G : Good X) (h0 : X.st = 0) {b : Int} (hb : isB b) : Good (feedX X b) := by
  have F := fedN_fed (X.held.length + 1) (X.held ++ [b]) (by simp)
  obtain ⟨c1, c2, c3, c4⟩ := F.bound
  unfold feedX
  generalize (fedN (X.held.length + 1) (X.held ++ [b])).1 = l at *
  generalize (fedN (X.held.length + 1) (X.held ++ [b])).2 = s at *
  have e1 := foldl_seq (l := l) (X := X)
  have e2 := foldl_st (l := l) (X := X)
  exact ⟨inv_held (inv_foldl G.inv) s, by show (l.foldl putX X).st ≤ 2; rw [e2]; exact G.st, by show (l.foldl putX X).seq.length ≤ 32; rw [e1.1]; exact G.sl, by show ∀ x, x ∈ (l.foldl putX X).seq → isB x; rw [e1.1]; exact G.sb, c2,
    fun x hx => (List.mem_append.1 (c3 x hx)).elim (G.hb x) (fun hx => by obtain rfl := List.mem_singleton.1 hx; exact hb), fun e => absurd (show (l.foldl putX X).st = 0 by rw [e2]; exact h0) e⟩
theorem good_ctl {X : TX} (G : Good X) (h0 : X.st = 0) (b : Int) : Good (ctlX (flushX X) b) := by
  have IZ : Inv (flushX X) := by
    unfold flushX
    exact inv_nolast (inv_held (inv_foldl G.inv) [])
  have e1 := foldl_seq (l := List.replicate X.held.length (65533 : Int)) (X := X)
  have e2 := foldl_st (l := List.replicate X.held.length (65533 : Int)) (X := X)
  have hs : (flushX X).st = 0 := e2.trans h0
  have hq : (flushX X).seq = X.seq := e1.1
  have hh : (flushX X).held = [] := rfl
  have hn : (flushX X).last = none := rfl
  generalize flushX X = Z at *
  have base : ∀ W : TX, Inv W → W.st ≤ 2 → W.seq = Z.seq → W.held = Z.held → (W.st ≠ 0 → W.last = none) → Good W := fun W I s1 s2 s3 s4 =>
    ⟨I, s1, by rw [s2, hq]; exact G.sl, by rw [s2, hq]; exact G.sb, by rw [s3, hh]; decide, (by rw [s3, hh]; intro x hx; cases hx), s4⟩
  unfold ctlX
  split
  · exact base _ (inv_st IZ 1 Z.seq) (by show (1 : Nat) ≤ 2; omega) rfl rfl fun _ => hn
  · split
    · have hc := IZ.c
      exact base _ ⟨IZ.r, IZ.c, IZ.n, IZ.row, ⟨by show (0 : Int) ≤ 0; omega, by show (0 : Int) < Z.cols; omega⟩, IZ.emp, IZ.wid, IZ.nw, IZ.last⟩ (by show Z.st ≤ 2; omega) rfl rfl fun e => absurd hs e
    · split
      · exact base _ (inv_move IZ _ _) (by show Z.st ≤ 2; omega) rfl rfl fun e => absurd hs e
      · split
        · exact base _ (inv_move IZ _ _) (by show Z.st ≤ 2; omega) rfl rfl fun e => absurd hs e
        · exact base _ IZ (by omega) rfl rfl fun e => absurd hs e
theorem good_step {X : TX} (G : Good X) {b : Int} (hb : isB b) : Good (stepX X b) := by
  unfold stepX
  split
  · rename_i h1
    split
    · exact ⟨inv_st G.inv 2 [], by show (2 : Nat) ≤ 2; omega, by show ([] : List Int).length ≤ 32; decide, fun x hx => (by cases hx), G.hl, G.hb, fun _ => G.ln (by omega)⟩
    · exact ⟨inv_st G.inv 0 X.seq, by show (0 : Nat) ≤ 2; omega, G.sl, G.sb, G.hl, G.hb, fun e => absurd rfl e⟩
  · rename_i h1
    split
    · rename_i h2
      split
      · split
        · rename_i h3
          exact ⟨inv_st G.inv X.st _, G.st, by show (X.seq ++ [b]).length ≤ 32; simp; omega, fun x hx => (List.mem_append.1 hx).elim (G.sb x) (fun hx => by obtain rfl := List.mem_singleton.1 hx; exact hb), G.hl, G.hb, fun _ => G.ln (by omega)⟩
        · exact G
      · split
        · exact good_seqX G h2 _ _
        · exact ⟨inv_st G.inv 0 X.seq, by show (0 : Nat) ≤ 2; omega, G.sl, G.sb, G.hl, G.hb, fun e => absurd rfl e⟩
    · rename_i h2
      have h0 : X.st = 0 := by have := G.st; omega
      split
      · exact good_feed G h0 hb
      · exact good_ctl G h0 b
theorem good_write {b : List Int} : ∀ {X : TX}, Good X → (∀ x, x ∈ b → isB x) → Good (writeX X b) := by
  induction b with
  | nil => intro X G _; exact G
  | cons x b ih => intro X G h; exact ih (good_step G (h x List.mem_cons_self)) fun y hy => h y (List.mem_cons_of_mem _ hy)
end Go.Proofs.YtefpalmihdbmiaaDoor.Am
end
section
/- The program's terminal: the contract of Write, by a walk. -/
set_option linter.unusedSimpArgs false
set_option linter.unusedVariables false
set_option maxHeartbeats 4000000
set_option maxRecDepth 20000
namespace Go.Proofs.YtefpalmihdbmiaaDoor.Am
open Go Go.RowKit Go.Proofs.Tryd
theorem write_ok {h0 h : Heap} {Fs : Nat → Prop} {gs : List (Value × List Int)} {t : Nat} {X : TX} {bv : Value} {b : List Int} (P : PM h Fs gs t (stF t X.st) (decide (X.st = 0)) X) (G : Good X) (E0 : Env h0 Fs h) (R : RdI prog h .u8 bv b) (hbv : Fam h (fun n => ¬ Fs n) bv) (hb : ∀ x, x ∈ b → isB x) (hl : b.length ≤ 1000000) :
    ACalls prog 13 #[pt t, bv] h (fun y h' => y = .tuple #[] ∧ PM h' Fs gs t (stF t (writeX X b).st) (decide ((writeX X b).st = 0)) (writeX X b) ∧ Ch (Rg Fs h) h h') := by
  refine acalls_of_W' func13 rfl (by kernel_rfl) (by kernel_rfl) (by simp [ntmps13]) ?_
  intro H
  have PN := fun {a : Addr} => ptr_some (P := prog) (a := a) underlying25
  have LB := R.len underlying29
  simp only [wk, wt, wl, ↓reduceIte, Nat.reduceEqDiff, Nat.reduceAdd, Nat.zero_add, not_false_eq_true, not_true_eq_false, pt, PN, LB]
  refine W_loop (fun tm hh => tm 0 = pt t ∧ tm 8 = bv ∧ tm 9 = .int .i64 b.length ∧ Env h0 Fs hh ∧ Ch (Rg Fs h) h hh ∧ ∃ (i : Nat) (Y : TX), tm 10 = .int .i64 (i : Int) ∧ i ≤ b.length ∧ PM hh Fs gs t (stF t Y.st) (decide (Y.st = 0)) Y ∧ Good Y ∧ writeX X b = writeX Y (b.drop i))
    (fun tm _ => (b.length - intOf (tm 10)).toNat) ⟨(by first | rfl | (simp only [wk, wt, wl, ↓reduceIte, Nat.reduceEqDiff, Nat.reduceAdd, Nat.zero_add, not_false_eq_true, not_true_eq_false]; done) | (simp only [wk, wt, wl, ↓reduceIte, Nat.reduceEqDiff, Nat.reduceAdd, Nat.zero_add, not_false_eq_true, not_true_eq_false]; rfl)), (by first | rfl | (simp only [wk, wt, wl, ↓reduceIte, Nat.reduceEqDiff, Nat.reduceAdd, Nat.zero_add, not_false_eq_true, not_true_eq_false]; done) | (simp only [wk, wt, wl, ↓reduceIte, Nat.reduceEqDiff, Nat.reduceAdd, Nat.zero_add, not_false_eq_true, not_true_eq_false]; rfl)), (by first | rfl | (simp only [wk, wt, wl, ↓reduceIte, Nat.reduceEqDiff, Nat.reduceAdd, Nat.zero_add, not_false_eq_true, not_true_eq_false]; done) | (simp only [wk, wt, wl, ↓reduceIte, Nat.reduceEqDiff, Nat.reduceAdd, Nat.zero_add, not_false_eq_true, not_true_eq_false]; rfl)), E0, (Keeps.refl H).rg, 0, X, (by first | rfl | (simp only [wk, wt, wl, ↓reduceIte, Nat.reduceEqDiff, Nat.reduceAdd, Nat.zero_add, not_false_eq_true, not_true_eq_false]; done) | (simp only [wk, wt, wl, ↓reduceIte, Nat.reduceEqDiff, Nat.reduceAdd, Nat.zero_add, not_false_eq_true, not_true_eq_false]; rfl)), by omega, P, G, rfl⟩ ?_
  rintro tm hh ⟨t0, t8, t9, E, C, i, Y, t10, hi, PY, GY, hw⟩
  simp only [wk, wt, wl, ↓reduceIte, Nat.reduceEqDiff, Nat.reduceAdd, Nat.zero_add, not_false_eq_true, not_true_eq_false, t0, t8, t9, t10]
  refine condK_dec (fun hd => ?_) (fun hd => ?_)
  · have hi1 : i < b.length := by omega
    have R1 : RdI prog hh .u8 bv b := Ch.rd C R (hbv.apart (Gs := Fs) fun n a b => a b)
    have IX := R1.index underlying29 asz5 (q := .i64) (i := (i : Int)) (by omega) (by omega)
    have LX := R1.at (i := i) (t := 5) underlying5 rfl hi1
    simp only [Int.toNat_natCast] at IX
    have hdr : b.drop i = b.getD i 0 :: b.drop (i + 1) := by rw [List.drop_eq_getElem_cons hi1]; congr 1; simp [List.getD, List.getElem?_eq_getElem hi1]
    have hxb : isB (b.getD i 0) := hb _ (by simp [List.getD, List.getElem?_eq_getElem hi1])
    rw [hdr] at hw
    have hw : writeX X b = writeX (stepX Y (b.getD i 0)) (b.drop (i + 1)) := hw
    generalize b.getD i 0 = x at *
    have wi : IntKind.i64.wrap ((i : Int) + 1) = ((i + 1 : Nat) : Int) := by rw [IntWalk.i64_in _ (by omega)]; omega
    obtain ⟨f, cv, sv, rv, ps, Ms, Q⟩ := PY
    obtain ⟨h3, e3, V3, C3, z3⟩ := Q.var.store1 (P := prog) (t := 4) (v := .bool false) (i := 10) (Ch.wf C) asz4 (by simp [tF]) rfl
    have Q3 : PT h3 Fs gs t (stF t Y.st) false Y f cv sv rv ps Ms := Q.own (Ch.wf C) C3 V3 rfl rfl rfl
    have P3 : PM h3 Fs gs t (stF t Y.st) false Y := ⟨_, _, _, _, _, _, Q3⟩
    have D3 := Q.dirtyT C3
    have E3 := E.ch D3
    have l9 := Q3.load.2.2.2.2.2.2.2.2.2.1
    by_cases s1 : Y.st = 1
    · have hf : stF t Y.st = escF t := by unfold stF; rw [if_pos s1]
      rw [hf] at l9
      simp only [escF, pt] at l9
      simp only [wk, wt, wl, ↓reduceIte, Nat.reduceEqDiff, Nat.reduceAdd, Nat.zero_add, not_false_eq_true, not_true_eq_false, t0, t8, t9, t10, pt, IX, LX, e3, l9, callV_func, body51]
      refine (escaped_ok (gr := false) P3 s1).use ?_
      rintro _ h4 ⟨rfl, P4, C4⟩
      have E4 := E3.ch C4
      obtain ⟨f4, cv4, sv4, rv4, ps4, Ms4, Q4⟩ := P4
      obtain ⟨h5, e5, V5, C5, z5⟩ := Q4.var.store1 (P := prog) (t := 60) (v := stF t (stepX Y x).st) (i := 9) (Ch.wf C4) asz60 (by simp [tF]) (by unfold stF; split; rfl; split <;> rfl)
      have Q5 : PT h5 Fs gs t (stF t (stepX Y x).st) (decide ((stepX Y x).st = 0)) (stepX Y x) f4 cv4 sv4 rv4 ps4 Ms4 := Q4.own (Ch.wf C4) C5 V5 rfl rfl rfl
      have D5 := Q4.dirtyT C5
      try simp only [pt] at e5
      simp only [wk, wt, wl, ↓reduceIte, Nat.reduceEqDiff, Nat.reduceAdd, Nat.zero_add, not_false_eq_true, not_true_eq_false, t0, t8, t9, t10, pt, e5, wi, intOf_int]
      exact ⟨⟨E4.ch D5, ((C.thenR D3).thenR C4).thenR D5, i + 1, stepX Y x, rfl, by omega, ⟨_, _, _, _, _, _, Q5⟩, good_step GY hxb, hw⟩, by omega⟩
    · by_cases s2 : Y.st = 2
      · have hf : stF t Y.st = insF t := by unfold stF; rw [if_neg s1, if_pos s2]
        rw [hf] at l9
        simp only [insF, pt] at l9
        simp only [wk, wt, wl, ↓reduceIte, Nat.reduceEqDiff, Nat.reduceAdd, Nat.zero_add, not_false_eq_true, not_true_eq_false, t0, t8, t9, t10, pt, IX, LX, e3, l9, callV_func, body64]
        refine (inside_ok P3 GY.inv s2 GY.sl GY.sb hxb).use ?_
        rintro _ h4 ⟨rfl, P4, C4⟩
        have E4 := E3.ch C4
        obtain ⟨f4, cv4, sv4, rv4, ps4, Ms4, Q4⟩ := P4
        obtain ⟨h5, e5, V5, C5, z5⟩ := Q4.var.store1 (P := prog) (t := 60) (v := stF t (stepX Y x).st) (i := 9) (Ch.wf C4) asz60 (by simp [tF]) (by unfold stF; split; rfl; split <;> rfl)
        have Q5 : PT h5 Fs gs t (stF t (stepX Y x).st) (decide ((stepX Y x).st = 0)) (stepX Y x) f4 cv4 sv4 rv4 ps4 Ms4 := Q4.own (Ch.wf C4) C5 V5 rfl rfl rfl
        have D5 := Q4.dirtyT C5
        try simp only [pt] at e5
        simp only [wk, wt, wl, ↓reduceIte, Nat.reduceEqDiff, Nat.reduceAdd, Nat.zero_add, not_false_eq_true, not_true_eq_false, t0, t8, t9, t10, pt, e5, wi, intOf_int]
        exact ⟨⟨E4.ch D5, ((C.thenR D3).thenR C4).thenR D5, i + 1, stepX Y x, rfl, by omega, ⟨_, _, _, _, _, _, Q5⟩, good_step GY hxb, hw⟩, by omega⟩
      · have hf : stF t Y.st = plainF t := by unfold stF; rw [if_neg s1, if_neg s2]
        have s0 : Y.st = 0 := by have := GY.st; omega
        rw [hf] at l9
        simp only [plainF, pt] at l9
        simp only [wk, wt, wl, ↓reduceIte, Nat.reduceEqDiff, Nat.reduceAdd, Nat.zero_add, not_false_eq_true, not_true_eq_false, t0, t8, t9, t10, pt, IX, LX, e3, l9, callV_func, body32]
        by_cases hc : 32 ≤ x ∧ x ≠ 127
        · skip
          refine (plain_fed P3 GY.inv E3 s0 GY.hl GY.hb hxb hc).use ?_
          rintro _ h4 ⟨rfl, P4, C4⟩
          have E4 := E3.ch C4
          obtain ⟨f4, cv4, sv4, rv4, ps4, Ms4, Q4⟩ := P4
          obtain ⟨h5, e5, V5, C5, z5⟩ := Q4.var.store1 (P := prog) (t := 60) (v := stF t (stepX Y x).st) (i := 9) (Ch.wf C4) asz60 (by simp [tF]) (by unfold stF; split; rfl; split <;> rfl)
          have Q5 : PT h5 Fs gs t (stF t (stepX Y x).st) (decide ((stepX Y x).st = 0)) (stepX Y x) f4 cv4 sv4 rv4 ps4 Ms4 := Q4.own (Ch.wf C4) C5 V5 rfl rfl rfl
          have D5 := Q4.dirtyT C5
          try simp only [pt] at e5
          simp only [wk, wt, wl, ↓reduceIte, Nat.reduceEqDiff, Nat.reduceAdd, Nat.zero_add, not_false_eq_true, not_true_eq_false, t0, t8, t9, t10, pt, e5, wi, intOf_int]
          exact ⟨⟨E4.ch D5, ((C.thenR D3).thenR C4).thenR D5, i + 1, stepX Y x, rfl, by omega, ⟨_, _, _, _, _, _, Q5⟩, good_step GY hxb, hw⟩, by omega⟩
        · skip
          refine (plain_ctl P3 GY.inv E3 s0 GY.hl hxb hc).use ?_
          rintro _ h4 ⟨rfl, P4, C4⟩
          have E4 := E3.ch C4
          obtain ⟨f4, cv4, sv4, rv4, ps4, Ms4, Q4⟩ := P4
          obtain ⟨h5, e5, V5, C5, z5⟩ := Q4.var.store1 (P := prog) (t := 60) (v := stF t (stepX Y x).st) (i := 9) (Ch.wf C4) asz60 (by simp [tF]) (by unfold stF; split; rfl; split <;> rfl)
          have Q5 : PT h5 Fs gs t (stF t (stepX Y x).st) (decide ((stepX Y x).st = 0)) (stepX Y x) f4 cv4 sv4 rv4 ps4 Ms4 := Q4.own (Ch.wf C4) C5 V5 rfl rfl rfl
          have D5 := Q4.dirtyT C5
          try simp only [pt] at e5
          simp only [wk, wt, wl, ↓reduceIte, Nat.reduceEqDiff, Nat.reduceAdd, Nat.zero_add, not_false_eq_true, not_true_eq_false, t0, t8, t9, t10, pt, e5, wi, intOf_int]
          exact ⟨⟨E4.ch D5, ((C.thenR D3).thenR C4).thenR D5, i + 1, stepX Y x, rfl, by omega, ⟨_, _, _, _, _, _, Q5⟩, good_step GY hxb, hw⟩, by omega⟩
  · obtain rfl : i = b.length := by omega
    rw [List.drop_length] at hw
    have hw : writeX X b = Y := hw
    simp only [wk, wt, wl, ↓reduceIte, Nat.reduceEqDiff, Nat.reduceAdd, Nat.zero_add, not_false_eq_true, not_true_eq_false]
    rw [hw]
    exact ⟨PY, C⟩
end Go.Proofs.YtefpalmihdbmiaaDoor.Am
end
section
/- A terminal in plain terms: a new one, one of another size, is good; no program in sight. -/
set_option linter.unusedSimpArgs false
set_option linter.unusedVariables false
set_option maxHeartbeats 4000000
namespace Go.Proofs.YtefpalmihdbmiaaDoor.Am
open Go Go.RowKit Go.Proofs.Tryd
theorem sizeR_bd (r : Int) : 2 ≤ sizeR r ∧ sizeR r ≤ 500 := by
  have M1 := imax_spec r 2
  have M2 := imin_spec (imax r 2) 500
  unfold sizeR; omega
theorem sizeC_bd (c : Int) : 2 ≤ sizeC c ∧ sizeC c ≤ 1000 := by
  have M1 := imax_spec c 2
  have M2 := imin_spec (imax c 2) 1000
  unfold sizeC; omega
theorem blankL_len (r c : Int) : ((blankL r c).length : Int) = sizeR r * sizeC c := by
  have h1 := sizeR_bd r
  have h2 := sizeC_bd c
  have h3 := Int.mul_nonneg (show 0 ≤ sizeR r by omega) (show 0 ≤ sizeC c by omega)
  simp only [blankL, List.length_replicate]
  omega
theorem blankL_at {r c : Int} {i : Nat} {d : Cel} (h : (blankL r c)[i]? = some d) : d = bl 0 := by
  unfold blankL at h
  exact (List.mem_replicate.1 (List.mem_of_getElem? h)).2
theorem inv_resize (X : TX) (r c : Int) : Inv (resizeX X r c) := by
  have h1 := sizeR_bd r
  have h2 := sizeC_bd c
  refine ⟨h1, h2, blankL_len r c, ⟨by show (0 : Int) ≤ 0; omega, by show (0 : Int) < sizeR r; omega⟩, ⟨by show (0 : Int) ≤ 0; omega, by show (0 : Int) < sizeC c; omega⟩, fun i d hd hx => ?_, fun i d hd hw => ?_, fun i d hd hx => ?_, fun i e => by cases e⟩
  · have := blankL_at hd; subst this; exact absurd hx bl_tx
  · have := blankL_at hd; subst this; cases hw
  · have := blankL_at hd; subst this; exact absurd hx bl_tx
theorem good_new (r c : Int) : Good (newX r c) := by
  have I := inv_resize (newX r c) r c
  exact ⟨⟨I.r, I.c, I.n, I.row, I.col, I.emp, I.wid, I.nw, I.last⟩, by show (0 : Nat) ≤ 2; omega, by show ([] : List Int).length ≤ 32; decide, fun x hx => (by cases hx), by show ([] : List Int).length ≤ 3; decide, fun x hx => (by cases hx), fun e => absurd rfl e⟩
theorem good_resize {X : TX} (G : Good X) (r c : Int) : Good (resizeX X r c) :=
  ⟨inv_resize X r c, G.st, G.sl, G.sb, G.hl, G.hb, fun _ => rfl⟩
end Go.Proofs.YtefpalmihdbmiaaDoor.Am
end
section
/- Copies of rows of runes: the contract of slices.Clone, by a walk. -/
set_option linter.unusedSimpArgs false
set_option linter.unusedVariables false
set_option maxHeartbeats 4000000
set_option maxRecDepth 20000
namespace Go.Proofs.YtefpalmihdbmiaaDoor.Am
open Go Go.RowKit Go.Proofs.Tryd
theorem body_cloneT : hasBody prog 37 = true := by kernel_rfl
theorem call_cloneT {all : Array Oper} {Q : Exit → Tm → Heap → Prop} {rest : List Oper} {tm : Tm} {h : Heap} {d : Option Tmp} {ty : TypeId} {pos : String} {aft : Array Edge} {args : Array Operand} {ts : Array TypeId} :
    aops prog all Q ({ dst := d, op := .call { callee := .value (.func 37), args := args, argTypes := ts }, type := ty, pos := pos, after := aft, guard := none } :: rest) tm h = ACallsX prog 37 (args.map (ev tm)) h (nextH prog all Q rest tm d) (panicK Q tm) := aops_call body_cloneT
theorem cloneT_ok {v : Value} {l : List Int} {h : Heap} (R : RdI prog h .i32 v l) (hl : l.length ≤ 1048576) :
    ACalls prog 37 #[v] h (fun y h' => RdI prog h' .i32 y l ∧ (∀ b, blkOf y = some b → h.size ≤ b) ∧ Keeps h h') := by
  refine acalls_of_W' func37 rfl (by kernel_rfl) (by kernel_rfl) (by simp [ntmps37]) ?_
  intro H
  have R0 := R
  obtain ⟨hlen, h2⟩ := R
  have eqn : ∀ c, abin prog .eql 44 (.slice none 0 c) (.slice none 0 0) = some (.bool true) := fun c => by simp [abin, aeq, underlying44]
  have eqs : ∀ a n c, abin prog .eql 44 (.slice (some a) n c) (.slice none 0 0) = some (.bool false) := fun a n c => by simp [abin, aeq, underlying44]
  have nl : l.length = 0 → l = [] := List.eq_nil_of_length_eq_zero
  rcases h2 with ⟨h0, rfl | rfl⟩ | ⟨b, o, c, k, rfl, hb, hk, hlv, ha, ho, hc⟩
  · simp only [wk, wt, wl, ↓reduceIte, Nat.reduceEqDiff, Nat.reduceAdd, Nat.zero_add, not_false_eq_true, not_true_eq_false, eqn]
    rw [nl h0]; exact ⟨Rd.nil0, (fun b e => by cases e), Keeps.refl H⟩
  · simp only [wk, wt, wl, ↓reduceIte, Nat.reduceEqDiff, Nat.reduceAdd, Nat.zero_add, not_false_eq_true, not_true_eq_false, eqn]
    rw [nl h0]; exact ⟨Rd.nil0, (fun b e => by cases e), Keeps.refl H⟩
  · simp only [wk, wt, wl, ↓reduceIte, Nat.reduceEqDiff, Nat.reduceAdd, Nat.zero_add, not_false_eq_true, not_true_eq_false, eqs, build0 underlying44 asz21]
    have O0 : Own prog h.size (h.new 21 []) 1 (.slice (some ⟨h.size, 0, none⟩) 0 1) 0 [] := Own.new H (Nat.le_refl _) asz21 (by simp)
    have K1 := Keeps.new H 21 []
    obtain ⟨v2, h2, e2, O2, R2, C2, hv⟩ := O0.appendRd (P := prog) (Ch.wf K1) (Ch.le K1) underlying44 underlying44 rfl elem21 fits21 (by decide) (R0.keeps K1) (by omega)
    rw [e2]; clear e2
    have hR : RdI prog h2 .i32 v2 l := by
      have := O2.1
      rw [Nat.zero_add, List.nil_append] at this
      simpa [RdI] using this
    have hB : ∀ z, blkOf v2 = some z → h.size ≤ z := fun z e => by
      rcases hv with rfl | rfl | rfl
      · exact blk_new z e
      · cases e
      · exact Nat.le_of_succ_le (blk_new z e)
    have hK := K1.step C2 fun b hb => hb.2
    simp only [wk, wt, wl, ↓reduceIte, Nat.reduceEqDiff, Nat.reduceAdd, Nat.zero_add, not_false_eq_true, not_true_eq_false]
    exact ⟨hR, hB, hK⟩
end Go.Proofs.YtefpalmihdbmiaaDoor.Am
end
section
/- Copies of cells: the contract of slices.Clone, by a walk. -/
set_option linter.unusedSimpArgs false
set_option linter.unusedVariables false
set_option maxHeartbeats 4000000
set_option maxRecDepth 20000
namespace Go.Proofs.YtefpalmihdbmiaaDoor.Am
open Go Go.RowKit Go.Proofs.Tryd
theorem cloneC_ok {v : Value} {ps : List PC} {h : Heap} (R : RS prog h 3 cC v ps) (h0 : 0 < ps.length) (hl : ps.length ≤ 500000) :
    ACalls prog 36 #[v] h (fun y h' => OwnR prog h' 3 y ps.length (ps.flatMap cC) ∧ (∀ b, blkOf y = some b → h.size ≤ b) ∧ Keeps h h') := by
  refine acalls_of_W' func36 rfl (by kernel_rfl) (by kernel_rfl) (by simp [ntmps36]) ?_
  intro H
  have R0 : Rd prog h 3 v ps.length (ps.flatMap cC) := R
  obtain ⟨hlen, h2⟩ := R
  have eqs : ∀ a n c, abin prog .eql 36 (.slice (some a) n c) (.slice none 0 0) = some (.bool false) := fun a n c => by simp [abin, aeq, underlying36]
  rcases h2 with ⟨h0', _⟩ | ⟨b, o, c, k, rfl, hb, hk, hlv, ha, ho, hc⟩
  · omega
  · have O0 : Own prog h.size (h.new 50 []) 3 (.slice (some ⟨h.size, 0, none⟩) 0 1) 0 [] := Own.new H (Nat.le_refl _) asz50 (by simp)
    have K1 := Keeps.new H 50 []
    have RX := R0.keeps K1
    obtain ⟨fz, fb, fs⟩ := fits50
    obtain ⟨h2, e2, O2, z2, R2, C2, k2, q1, q2, _⟩ := O0.append (P := prog) (Ch.wf K1) (Ch.le K1) underlying36 underlying36 rfl elem50 fz (by rw [fb]; decide) fs RX.news h0 (by rw [fm_len cC_len]) (by rw [fb]; omega)
    simp only [wk, wt, wl, ↓reduceIte, Nat.reduceEqDiff, Nat.reduceAdd, Nat.zero_add, not_false_eq_true, not_true_eq_false, eqs, build0 underlying36 asz50]
    rw [e2]; clear e2
    have hO : OwnR prog h2 3 (.slice (some ⟨(h.new 50 []).size, 0, none⟩) (0 + ps.length) 0) ps.length (ps.flatMap cC) := by
      refine ⟨by have := O2.1; rw [List.nil_append] at this; rw [Nat.zero_add] at this ⊢; exact this, fun z e => ?_⟩
      cases e
      exact ⟨k2, q1, q2⟩
    have hK := K1.step C2 fun b hb => hb.2
    have hB : ∀ z, blkOf (.slice (some ⟨(h.new 50 []).size, 0, none⟩) (0 + ps.length) 0) = some z → h.size ≤ z := fun z e => Nat.le_of_succ_le (blk_new z e)
    rw [Nat.zero_add] at hO hB
    simp only [wk, wt, wl, ↓reduceIte, Nat.reduceEqDiff, Nat.reduceAdd, Nat.zero_add, not_false_eq_true, not_true_eq_false]
    exact ⟨hO, hB, hK⟩
end Go.Proofs.YtefpalmihdbmiaaDoor.Am
end
section
/- A terminal that is none: contracts of its methods, by walks. -/
set_option linter.unusedSimpArgs false
set_option linter.unusedVariables false
set_option maxHeartbeats 4000000
set_option maxRecDepth 20000
namespace Go.Proofs.YtefpalmihdbmiaaDoor.Am
open Go Go.RowKit Go.Proofs.Tryd
theorem nilT : abin prog .eql 25 (.pointer none) (.pointer none) = some (.bool true) := ptr_none underlying25
theorem nilTn : abin prog .neq 25 (.pointer none) (.pointer none) = some (.bool false) := ptr_ne0 underlying25
theorem attr_nil {h : Heap} : ACalls prog 20 #[.pointer none] h (fun y h' => y = .int .i64 0 ∧ h' = h) := by
  refine acalls_of_W func20 rfl (by kernel_rfl) (by kernel_rfl) (by simp [ntmps20]) ?_
  simp only [wk, wt, wl, ↓reduceIte, Nat.reduceEqDiff, Nat.reduceAdd, Nat.zero_add, not_false_eq_true, not_true_eq_false, nilT]
theorem shown_nil {h : Heap} : ACalls prog 21 #[.pointer none] h (fun y h' => y = .bool false ∧ h' = h) := by
  refine acalls_of_W func21 rfl (by kernel_rfl) (by kernel_rfl) (by simp [ntmps21]) ?_
  simp only [wk, wt, wl, ↓reduceIte, Nat.reduceEqDiff, Nat.reduceAdd, Nat.zero_add, not_false_eq_true, not_true_eq_false, nilTn]
theorem waits_nil {h : Heap} : ACalls prog 19 #[.pointer none] h (fun y h' => y = .bool false ∧ h' = h) := by
  refine acalls_of_W func19 rfl (by kernel_rfl) (by kernel_rfl) (by simp [ntmps19]) ?_
  simp only [wk, wt, wl, ↓reduceIte, Nat.reduceEqDiff, Nat.reduceAdd, Nat.zero_add, not_false_eq_true, not_true_eq_false, nilTn]
theorem write_nil {h : Heap} {v : Value} : ACalls prog 13 #[.pointer none, v] h (fun y h' => y = .tuple #[] ∧ h' = h) := by
  refine acalls_of_W func13 rfl (by kernel_rfl) (by kernel_rfl) (by simp [ntmps13]) ?_
  simp only [wk, wt, wl, ↓reduceIte, Nat.reduceEqDiff, Nat.reduceAdd, Nat.zero_add, not_false_eq_true, not_true_eq_false, nilT]
theorem resize_nil {h : Heap} {r c : Int} : ACalls prog 28 #[.pointer none, .int .i64 r, .int .i64 c] h (fun y h' => y = .tuple #[] ∧ h' = h) := by
  refine acalls_of_W func28 rfl (by kernel_rfl) (by kernel_rfl) (by simp [ntmps28]) ?_
  simp only [wk, wt, wl, ↓reduceIte, Nat.reduceEqDiff, Nat.reduceAdd, Nat.zero_add, not_false_eq_true, not_true_eq_false, nilTn]
end Go.Proofs.YtefpalmihdbmiaaDoor.Am
end
section
/- Grids as values; the program's terminal: the contract of Grid, by a walk. -/
set_option linter.unusedSimpArgs false
set_option linter.unusedVariables false
set_option maxHeartbeats 4000000
set_option maxRecDepth 20000
namespace Go.Proofs.YtefpalmihdbmiaaDoor.Am
open Go Go.RowKit Go.Proofs.Tryd
theorem Var.loadP {P : Program} {h : Heap} {b i s : Nat} {cs : List Value} (V : Var h b cs) {t : TypeId} {d : TypeDesc} (ht : P.underlying t = some d) (hd : isAggD d = true) (hs : asz P t = some s) (hle : i + s ≤ cs.length) : aload P h t ⟨b, i, none⟩ = some (.agg ((cs.drop i).take s).toArray) := by
  obtain ⟨k, h1, h2, h3, _⟩ := V
  subst h2
  simp only [aload, h1, h3, if_true, ht, hd, hs, hle]
/-- A grid's cells, as they are read. -/
def GD (h : Heap) (Gs : Nat → Prop) (cv : Value) (l : List Cel) : Prop := ∃ ps : List PC, ps.map Prod.snd = l ∧ RS prog h 3 cC cv ps ∧ Fam h Gs cv ∧ ∀ p, p ∈ ps → RdI prog h .i32 p.1 p.2.tx ∧ Fam h Gs p.1
theorem GD.ch {h h' : Heap} {Fs Gs : Nat → Prop} {cv : Value} {l : List Cel} (G : GD h Gs cv l) (C : Ch (Rg Fs h) h h') (hd : ∀ n, Gs n → ¬ Fs n) : GD h' Gs cv l := by
  obtain ⟨ps, e, R, F, A⟩ := G
  exact ⟨ps, e, Ch.rd C R (F.apart hd), F.ch C fun z hz => (R.blk_lt hz).1, fun p hp => ⟨Ch.rd C (A p hp).1 ((A p hp).2.apart hd), (A p hp).2.ch C fun z hz => ((A p hp).1.blk_lt hz).1⟩⟩
theorem GD.keeps {h h' : Heap} {Gs : Nat → Prop} {cv : Value} {l : List Cel} (G : GD h Gs cv l) (K : Keeps h h') : GD h' Gs cv l := by
  obtain ⟨ps, e, R, F, A⟩ := G
  exact ⟨ps, e, R.keeps K, F.ch K fun z hz => (R.blk_lt hz).1, fun p hp => ⟨(A p hp).1.keeps K, (A p hp).2.ch K fun z hz => ((A p hp).1.blk_lt hz).1⟩⟩
theorem GD.mono {h : Heap} {Gs Gs' : Nat → Prop} {cv : Value} {l : List Cel} (G : GD h Gs cv l) (hs : ∀ n, Gs n → Gs' n) : GD h Gs' cv l := by
  obtain ⟨ps, e, R, F, A⟩ := G
  exact ⟨ps, e, R, F.mono hs, fun p hp => ⟨(A p hp).1, (A p hp).2.mono hs⟩⟩
def gV (X : TX) (cv : Value) : Value := .agg #[.int .i64 X.rows, .int .i64 X.cols, cv, .int .i64 X.row, .int .i64 X.col]
theorem list_set_self {α : Type} {l : List α} {i : Nat} {x : α} (h : l[i]? = some x) : l.set i x = l := by
  refine List.ext_getElem? fun n => ?_
  rw [List.getElem?_set]
  by_cases e : i = n
  · subst e
    rw [if_pos rfl, h, if_pos (List.getElem?_eq_some_iff.1 h).1]
  · rw [if_neg e]
theorem grid_ok {h : Heap} {Fs : Nat → Prop} {gs : List (Value × List Int)} {t : Nat} {nv : Value} {gr : Bool} {X : TX} (P : PM h Fs gs t nv gr X) (h0 : 0 < X.cells.length) (hl : X.cells.length ≤ 500000) (ht : ∀ c, c ∈ X.cells → c.tx.length ≤ 1000) :
    ACalls prog 18 #[pt t] h (fun y h' => ∃ cv, y = gV X cv ∧ GD h' (fun n => h.size ≤ n ∧ n < h'.size) cv X.cells ∧ Keeps h h') := by
  refine acalls_of_W' func18 rfl (by kernel_rfl) (by kernel_rfl) (by simp [ntmps18]) ?_
  intro H
  obtain ⟨f, cv0, sv, rv, ps0, Ms, Q⟩ := P
  have PN := fun {a : Addr} => ptr_some (P := prog) (a := a) underlying25
  have N1 := Keeps.new H 38 [.int .i64 0, .int .i64 0, .slice none 0 0, .int .i64 0, .int .i64 0]
  have V1 := Var.new (e := 38) H (cs := [.int .i64 0, .int .i64 0, .slice none 0 0, .int .i64 0, .int .i64 0])
  have hz1 : (h.new 38 [.int .i64 0, .int .i64 0, .slice none 0 0, .int .i64 0, .int .i64 0]).size = h.size + 1 := rfl
  have Q1 := Q.keeps H N1
  simp only [wk, wt, wl, ↓reduceIte, Nat.reduceEqDiff, Nat.reduceAdd, Nat.zero_add, not_false_eq_true, not_true_eq_false, pt, PN]
  generalize h.new 38 [.int .i64 0, .int .i64 0, .slice none 0 0, .int .i64 0, .int .i64 0] = h1 at *
  have LG := Q1.var.loadP (P := prog) (t := 38) (i := 0) (s := 5) underlying38 rfl asz38 (by simp [tF])
  simp only [tF, List.drop_zero, List.take_succ_cons, List.take_zero] at LG
  have N2 := Keeps.new (Ch.wf N1) 38 [.int .i64 0, .int .i64 0, .slice none 0 0, .int .i64 0, .int .i64 0]
  have V2 := Var.new (e := 38) (Ch.wf N1) (cs := [.int .i64 0, .int .i64 0, .slice none 0 0, .int .i64 0, .int .i64 0])
  have hz2 : (h1.new 38 [.int .i64 0, .int .i64 0, .slice none 0 0, .int .i64 0, .int .i64 0]).size = h1.size + 1 := rfl
  have U2 := Keeps.var (Ch.wf N1) N2 V1
  have Q2 := Q1.keeps (Ch.wf N1) N2
  have K2 := N1.trans N2
  simp only [wk, wt, wl, ↓reduceIte, Nat.reduceEqDiff, Nat.reduceAdd, Nat.zero_add, not_false_eq_true, not_true_eq_false, pt, PN, LG]
  generalize h1.new 38 [.int .i64 0, .int .i64 0, .slice none 0 0, .int .i64 0, .int .i64 0] = h2 at *
  have hoc : one cv0 = true := Q.gp.own.1.one
  obtain ⟨h3, e3, V3, C3, z3⟩ := V2.store (P := prog) (t := 38) (v := gV X cv0) (i := 0) (Ch.wf N2) asz38 (by simp [gV, Value.cells, one_cells hoc]) (by simp [gV, Value.cells, one_cells hoc, one_int, hoc])
  have hcs : (gV X cv0).cells.toList = [.int .i64 X.rows, .int .i64 X.cols, cv0, .int .i64 X.row, .int .i64 X.col] := by simp [gV, Value.cells, one_cells hoc]
  rw [hcs, over_all (xs := [.int .i64 0, .int .i64 0, .slice none 0 0, .int .i64 0, .int .i64 0]) (vs := [.int .i64 X.rows, .int .i64 X.cols, cv0, .int .i64 X.row, .int .i64 X.col]) rfl] at V3
  have K3 := K2.step C3 fun y e => by omega
  have K23 : Keeps h2 h3 → True := fun _ => trivial
  have U3 := Ch.var (Ch.wf K2) C3 U2 (by omega)
  have L2 := V3.load1 (P := prog) (i := 2) (t := 36) underlying36 rfl
  simp only [List.getElem?_cons_succ, List.getElem?_cons_zero] at L2
  simp only [gV] at e3
  simp only [wk, wt, wl, ↓reduceIte, Nat.reduceEqDiff, Nat.reduceAdd, Nat.zero_add, not_false_eq_true, not_true_eq_false, e3, L2, pt]
  have G3 := Q.gp.keeps K3
  have hpl : ps0.length = X.cells.length := Q.gp.length
  refine (cloneC_ok G3.rs (by omega) (by omega)).use ?_
  rintro cv h4 ⟨O4, hB4, K4⟩
  have K04 := K3.trans K4
  have hle3 := Ch.le K3
  have hle4 := Ch.le K4
  have V4 := Keeps.var (Ch.wf K3) K4 V3
  have U4 := Keeps.var (Ch.wf K3) K4 U3
  have hoc4 : one cv = true := O4.1.one
  obtain ⟨h5, e5, V5, C5, z5⟩ := V4.store1 (P := prog) (t := 36) (v := cv) (i := 2) (Ch.wf K04) asz36 (by simp) hoc4
  simp only [List.set_cons_succ, List.set_cons_zero] at V5
  have hb1 : h1.size < h3.size := V3.lt (Ch.wf K3)
  have hcb : ∀ y, blkOf cv = some y → y ≠ h1.size ∧ y ≠ h.size := fun y hy => by have := hB4 y hy; omega
  have K5 := K04.step C5 fun y e => by omega
  have O5 := Ch.ownR C5 O4 fun y hy e => (hcb y hy).1 e
  have U5 := Ch.var (Ch.wf K04) C5 U4 (by omega)
  have F4 : Fam h4 (fun n => h3.size ≤ n ∧ n < h4.size) cv := Fam.freshK K4 hB4
  have F5 := F4.ch C5 fun z hz => (O4.1.blk_lt hz).1
  have G5 : GP h5 (fun _ => True) (fun n => h3.size ≤ n ∧ n < h5.size) cv X.cells ps0 := by
    have G0 := Q.gp.keeps K5
    refine ⟨G0.eq, O5, G0.rd, fun p hp z k hz g => ⟨trivial, fun m => ?_⟩⟩
    have hzl := ((Q.gp.rd p hp).blk_lt hz).1
    rw [K5.at hzl] at g
    have := H.2 z k g
    omega
  have M5 : Fam h5 (fun n => h3.size ≤ n ∧ n < h5.size) cv := F5.mono fun n hn => ⟨hn.1, by omega⟩
  have L5 := fun {hh : Heap} (V : Var hh h1.size [.int .i64 X.rows, .int .i64 X.cols, cv, .int .i64 X.row, .int .i64 X.col]) => V.load1 (P := prog) (i := 2) (t := 36) underlying36 rfl
  have LA := fun {hh : Heap} (V : Var hh h1.size [.int .i64 X.rows, .int .i64 X.cols, cv, .int .i64 X.row, .int .i64 X.col]) => V.loadA (P := prog) (t := 38) underlying38 rfl asz38
  simp only [List.getElem?_cons_succ, List.getElem?_cons_zero] at L5
  have LC := O5.1.len underlying36
  rw [hpl] at LC
  simp only [wk, wt, wl, ↓reduceIte, Nat.reduceEqDiff, Nat.reduceAdd, Nat.zero_add, not_false_eq_true, not_true_eq_false, e5, pt, L5 V5, LC]
  refine W_loop (fun tm hh => tm 2 = pt h.size ∧ tm 3 = pt h1.size ∧ tm 18 = .int .i64 X.cells.length ∧ Keeps h hh ∧ h5.size ≤ hh.size ∧ Var hh h1.size [.int .i64 X.rows, .int .i64 X.cols, cv, .int .i64 X.row, .int .i64 X.col] ∧ Var hh h.size [.int .i64 0, .int .i64 0, .slice none 0 0, .int .i64 0, .int .i64 0] ∧ Fam hh (fun n => h3.size ≤ n ∧ n < h5.size) cv ∧
      ∃ (i : Nat) (ps : List PC), tm 19 = .int .i64 (i : Int) ∧ i ≤ X.cells.length ∧ GP hh (fun _ => True) (fun n => h3.size ≤ n ∧ n < h5.size) cv X.cells ps ∧ ∀ (j : Nat) (p : PC), j < i → ps[j]? = some p → ∀ z, blkOf p.1 = some z → h3.size ≤ z)
    (fun tm _ => (X.cells.length - intOf (tm 19)).toNat) ⟨(by first | rfl | (simp only [wk, wt, wl, ↓reduceIte, Nat.reduceEqDiff, Nat.reduceAdd, Nat.zero_add, not_false_eq_true, not_true_eq_false]; done) | (simp only [wk, wt, wl, ↓reduceIte, Nat.reduceEqDiff, Nat.reduceAdd, Nat.zero_add, not_false_eq_true, not_true_eq_false]; rfl)), (by first | rfl | (simp only [wk, wt, wl, ↓reduceIte, Nat.reduceEqDiff, Nat.reduceAdd, Nat.zero_add, not_false_eq_true, not_true_eq_false]; done) | (simp only [wk, wt, wl, ↓reduceIte, Nat.reduceEqDiff, Nat.reduceAdd, Nat.zero_add, not_false_eq_true, not_true_eq_false]; rfl)), (by first | rfl | (simp only [wk, wt, wl, ↓reduceIte, Nat.reduceEqDiff, Nat.reduceAdd, Nat.zero_add, not_false_eq_true, not_true_eq_false]; done) | (simp only [wk, wt, wl, ↓reduceIte, Nat.reduceEqDiff, Nat.reduceAdd, Nat.zero_add, not_false_eq_true, not_true_eq_false]; rfl)), K5, Nat.le_refl _, V5, U5, M5, 0, ps0, (by first | rfl | (simp only [wk, wt, wl, ↓reduceIte, Nat.reduceEqDiff, Nat.reduceAdd, Nat.zero_add, not_false_eq_true, not_true_eq_false]; done) | (simp only [wk, wt, wl, ↓reduceIte, Nat.reduceEqDiff, Nat.reduceAdd, Nat.zero_add, not_false_eq_true, not_true_eq_false]; rfl)), by omega, G5, fun j p hj => by omega⟩ ?_
  rintro tm hh ⟨t2, t3, t18, K, hle5, V, U, M, i, ps, t19, hi, G, hN⟩
  simp only [wk, wt, wl, ↓reduceIte, Nat.reduceEqDiff, Nat.reduceAdd, Nat.zero_add, not_false_eq_true, not_true_eq_false, t2, t3, t18, t19]
  refine condK_dec (fun hd => ?_) (fun hd => ?_)
  · have IX := G.index (z := (i : Int)) (by omega) (by omega)
    simp only [Int.toNat_natCast] at IX
    obtain ⟨p, p1, p2, p3⟩ := G.at (i := i) (by omega)
    obtain ⟨a1, a2, a3, a4, a5⟩ := G.loads p1
    have hi1 : i < X.cells.length := by omega
    have hpt : p.2.tx.length ≤ 1000 := ht _ (List.mem_of_getElem? p2)
    simp only [wk, wt, wl, ↓reduceIte, Nat.reduceEqDiff, Nat.reduceAdd, Nat.zero_add, not_false_eq_true, not_true_eq_false, t2, t3, t18, t19, pt]
    refine adraw_order [(0, false), (1, false), (2, false), (3, false), (4, false), (5, false), (6, false), (7, false), (8, false), (9, true), (10, false), (11, false), (12, false)] mixed (by kernel_rfl) (by kernel_rfl) (by kernel_rfl) (by with_reducible repeat (first | exact PF_retK | refine PF_thenK ?_ | refine PF_blockK ?_)) ?_
    simp only [wk, wt, wl, ↓reduceIte, Nat.reduceEqDiff, Nat.reduceAdd, Nat.zero_add, not_false_eq_true, not_true_eq_false, dK_t, t3, t19, pt, L5 V, IX, a1, a5]
    refine (cloneT_ok (G.rd p p3) (by omega)).use ?_
    rintro tv h6 ⟨R6, hz6, K6⟩
    have G6 := G.keeps K6
    have M6 := M.ch K6 G.lt
    have hle6 := Ch.le K6
    have hleK := Ch.le K
    obtain ⟨h7, e7, G7, C7, z7⟩ := G6.fld (t := 44) (v := tv) (q := (tv, p.2)) (Ch.wf K6) M6 p1 (by decide : 0 < 3) asz44 R6.one rfl R6 ((Fam.freshK K6 hz6).mono fun n hn => ⟨trivial, fun m => by omega⟩)
    rw [list_set_self p2] at G7
    rw [eltA_eta] at e7
    have hcf : ∀ x cs, Var h6 x cs → x = h1.size ∨ x = h.size → ¬ FamV h6 cv x := fun x cs V hx => V.notFam fun e => by have := hcb x e; omega
    have V6 := Keeps.var (Ch.wf K) K6 V
    have U6 := Keeps.var (Ch.wf K) K6 U
    have V7 := Ch.var (Ch.wf K6) C7 V6 (hcf _ _ V6 (.inl rfl))
    have U7 := Ch.var (Ch.wf K6) C7 U6 (hcf _ _ U6 (.inr rfl))
    have M7 := M6.ch C7 fun z hz => G6.lt z hz
    have K7 := (K.trans K6).step C7 fun y d => by
      obtain ⟨k, g, f⟩ := FamV.rg M6 d
      have := (Ch.wf K6).2 y k g
      omega
    refine ⟨fun _ => K6.reads (Ch.wf K), ?_⟩
    simp (disch := omega) only [wk, wt, wl, ↓reduceIte, Nat.reduceEqDiff, Nat.reduceAdd, Nat.zero_add, not_false_eq_true, not_true_eq_false, dK_t, t2, t3, t18, t19, pt, L5 V6, IX, e7, eltA_eta, IntWalk.i64_in, intOf_int]
    refine ⟨⟨K7, by omega, V7, U7, M7, i + 1, _, by simp, by omega, G7, fun j q hj hq => ?_⟩, by omega⟩
    rw [List.getElem?_set] at hq
    by_cases e : i = j
    · subst e
      rw [if_pos rfl] at hq
      split at hq
      · cases hq
        exact fun z hz => by have := hz6 z hz; omega
      · cases hq
    · rw [if_neg e] at hq
      exact hN j q (by omega) hq
  · obtain rfl : i = X.cells.length := by omega
    obtain ⟨h8, e8, U8, C8, z8⟩ := U.store (P := prog) (t := 38) (v := gV X cv) (i := 0) (Ch.wf K) asz38 (by simp [gV, Value.cells, one_cells hoc4]) (by simp [gV, Value.cells, one_cells hoc4, one_int, hoc4])
    have hcs8 : (gV X cv).cells.toList = [.int .i64 X.rows, .int .i64 X.cols, cv, .int .i64 X.row, .int .i64 X.col] := by simp [gV, Value.cells, one_cells hoc4]
    rw [hcs8, over_all (xs := [.int .i64 0, .int .i64 0, .slice none 0 0, .int .i64 0, .int .i64 0]) (vs := [.int .i64 X.rows, .int .i64 X.cols, cv, .int .i64 X.row, .int .i64 X.col]) rfl] at U8
    have UA := U8.loadA (P := prog) (t := 38) underlying38 rfl asz38
    simp only [gV] at e8
    simp only [wk, wt, wl, ↓reduceIte, Nat.reduceEqDiff, Nat.reduceAdd, Nat.zero_add, not_false_eq_true, not_true_eq_false, t2, t3, pt, LA V, e8, UA]
    have K8 := K.step C8 fun y e => by omega
    have hN0 : ∀ p, p ∈ ps → ∀ z, blkOf p.1 = some z → h3.size ≤ z := fun p hp => by
      obtain ⟨j, hj, rfl⟩ := List.getElem_of_mem hp
      exact hN j _ (by rw [← G.length]; exact hj) (List.getElem?_eq_getElem hj)
    have R8 : ∀ p, p ∈ ps → RdI prog h8 .i32 p.1 p.2.tx := fun p hp => Ch.rd C8 (G.rd p hp) fun y hy e => by
      have := hN0 p hp y hy; omega
    exact ⟨cv, by simp [gV], ⟨ps, G.eq, Ch.rd C8 G.own.1 fun y hy e => (hcb y hy).2 e, Fam.freshK K8 fun z hz => by have := hB4 z hz; omega, fun p hp => ⟨R8 p hp, Fam.freshK K8 fun z hz => by have := hN0 p hp z hz; omega⟩⟩, K8⟩
end Go.Proofs.YtefpalmihdbmiaaDoor.Am
end
