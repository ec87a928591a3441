/- Patterns: contracts of row and of chapter 7's examples (awake), by walks. -/
import Derived.Test.YtnnkcbkenofhmaaKm
set_option linter.unusedSimpArgs false
set_option linter.unusedVariables false
set_option maxHeartbeats 4000000
set_option maxRecDepth 20000
namespace Go.Proofs.Ytnnkcbkenofhmaa.Am
open Go Go.RowKit Go.Proofs.Try
theorem row_ok {h : Heap} {s : ByteArray} {l : List Int} (hr : runesV s = l.map (Value.int .i32)) (hl : l.length ≤ 1000) : ACalls prog 22 #[.string s] h (fun y h' => RdI prog h' .i32 y l ∧ Keeps h h') := by
  refine acalls_of_W' func22 rfl (by kernel_rfl) (by kernel_rfl) (by simp [ntmps22]) ?_
  intro H
  have c1 : aconv prog h 9 22 (.string s) = none := by simp [aconv, underlying9, underlying22]
  have c2 : aconvE prog h 9 22 (.string s) = some (.slice (some ⟨h.size, 0, none⟩) l.length 0, h.new 21 (l.map (Value.int .i32))) := by
    have h1 : (l.map (Value.int .i32)).all constOk = true := by
      rw [List.all_eq_true]; intro x hx; obtain ⟨a, _, rfl⟩ := List.mem_map.1 hx; rfl
    have h2 : (l.map (Value.int .i32)).all one = true := by
      rw [List.all_eq_true]; intro x hx; obtain ⟨a, _, rfl⟩ := List.mem_map.1 hx; rfl
    have h3 : l.length ≤ 70368744177664 := by omega
    simp only [aconvE, underlying9, underlying22, underlying21, asz21, hr, h1, h2, List.length_map, h3, and_self, if_true]
  simp only [wk, wt, wl, ↓reduceIte, Nat.reduceEqDiff, Nat.reduceAdd, Nat.zero_add, not_false_eq_true, not_true_eq_false, c1, c2]
  exact ⟨Rd.new H asz21 (by simp), Keeps.new H _ _⟩
theorem Var.k0 {h : Heap} {b : Nat} {c : RC} (V : Var h b (reC c)) : aload prog h 3 ⟨b, 0, none⟩ = some (.int .i64 c.k) := V.load1 (P := prog) (t := 3) underlying3 rfl (i := 0)
theorem Var.k4 {h : Heap} {b : Nat} {c : RC} (V : Var h b (reC c)) : aload prog h 3 ⟨b, 4, none⟩ = some (.int .i64 c.lo) := V.load1 (P := prog) (t := 3) underlying3 rfl (i := 4)
theorem Var.k5 {h : Heap} {b : Nat} {c : RC} (V : Var h b (reC c)) : aload prog h 3 ⟨b, 5, none⟩ = some (.int .i64 c.hi) := V.load1 (P := prog) (t := 3) underlying3 rfl (i := 5)
theorem Var.k6 {h : Heap} {b : Nat} {c : RC} (V : Var h b (reC c)) : aload prog h 24 ⟨b, 6, none⟩ = some c.pv := V.load1 (P := prog) (t := 24) underlying24 rfl (i := 6)
theorem i32s {l : List Int} (h : (l.all fun x => decide (0 ≤ x ∧ x ≤ 1000)) = true) : I32 l := fun x hx => by
  have := List.all_eq_true.1 h x hx
  simp only [decide_eq_true_eq] at this
  omega
theorem awake_ok {h : Heap} : ACalls prog 9 #[] h (fun y h' => y = .bool true ∧ Keeps h h') := by
  refine acalls_of_W' func9 rfl (by kernel_rfl) (by kernel_rfl) (by simp [ntmps9]) ?_
  intro H
  simp only [wk, wt, wl, ↓reduceIte, Nat.reduceEqDiff, Nat.reduceAdd, Nat.zero_add, not_false_eq_true, not_true_eq_false]
  refine (row_ok (l := [97, 98, 42]) (by kernel_rfl) (by decide)).use ?_
  rintro rv1 ha1 ⟨S1, KA1⟩
  simp only [wk, wt, wl, ↓reduceIte, Nat.reduceEqDiff, Nat.reduceAdd, Nat.zero_add, not_false_eq_true, not_true_eq_false]
  refine (parse_ok S1 (by decide) (i32s (by decide))).use ?_
  rintro _ hb1 ⟨c1, rfl, P1, KB1⟩
  have NN1 := Keeps.new (Ch.wf KB1) 26 (reC rc0)
  obtain ⟨hc1, e1, V1, C1, z1⟩ := (Var.new (e := 26) (Ch.wf KB1) (cs := reC rc0)).put (Ch.wf NN1) (d := c1) P1.one1.1 P1.one1.2
  have KC1 : Keeps hb1 hc1 := NN1.step C1 fun b e => by omega
  have Q1 := ReR.ch KC1 (fun _ e => e.elim) _ _ P1
  simp only [wk, wt, wl, ↓reduceIte, Nat.reduceEqDiff, Nat.reduceAdd, Nat.zero_add, not_false_eq_true, not_true_eq_false, newRe, newSz, e1]
  refine (row_ok (l := [92, 40, 97, 92, 124, 98, 92, 41, 36]) (by kernel_rfl) (by decide)).use ?_
  rintro rv2 ha2 ⟨S2, KA2⟩
  simp only [wk, wt, wl, ↓reduceIte, Nat.reduceEqDiff, Nat.reduceAdd, Nat.zero_add, not_false_eq_true, not_true_eq_false]
  refine (parse_ok S2 (by decide) (i32s (by decide))).use ?_
  rintro _ hb2 ⟨c2, rfl, P2, KB2⟩
  have NN2 := Keeps.new (Ch.wf KB2) 26 (reC rc0)
  obtain ⟨hc2, e2, V2, C2, z2⟩ := (Var.new (e := 26) (Ch.wf KB2) (cs := reC rc0)).put (Ch.wf NN2) (d := c2) P2.one1.1 P2.one1.2
  have KC2 : Keeps hb2 hc2 := NN2.step C2 fun b e => by omega
  have Q2 := ReR.ch KC2 (fun _ e => e.elim) _ _ P2
  simp only [wk, wt, wl, ↓reduceIte, Nat.reduceEqDiff, Nat.reduceAdd, Nat.zero_add, not_false_eq_true, not_true_eq_false, newRe, newSz, e2]
  refine (row_ok (l := [97, 92, 123, 50]) (by kernel_rfl) (by decide)).use ?_
  rintro rv3 ha3 ⟨S3, KA3⟩
  simp only [wk, wt, wl, ↓reduceIte, Nat.reduceEqDiff, Nat.reduceAdd, Nat.zero_add, not_false_eq_true, not_true_eq_false]
  refine (parse_ok S3 (by decide) (i32s (by decide))).use ?_
  rintro _ hb3 ⟨c3, rfl, P3, KB3⟩
  have NN3 := Keeps.new (Ch.wf KB3) 26 (reC rc0)
  obtain ⟨hc3, e3, V3, C3, z3⟩ := (Var.new (e := 26) (Ch.wf KB3) (cs := reC rc0)).put (Ch.wf NN3) (d := c3) P3.one1.1 P3.one1.2
  have KC3 : Keeps hb3 hc3 := NN3.step C3 fun b e => by omega
  have Q3 := ReR.ch KC3 (fun _ e => e.elim) _ _ P3
  simp only [wk, wt, wl, ↓reduceIte, Nat.reduceEqDiff, Nat.reduceAdd, Nat.zero_add, not_false_eq_true, not_true_eq_false, newRe, newSz, e3]
  refine (row_ok (l := [92, 123, 50, 92, 125]) (by kernel_rfl) (by decide)).use ?_
  rintro rv4 ha4 ⟨S4, KA4⟩
  simp only [wk, wt, wl, ↓reduceIte, Nat.reduceEqDiff, Nat.reduceAdd, Nat.zero_add, not_false_eq_true, not_true_eq_false]
  refine (parse_ok S4 (by decide) (i32s (by decide))).use ?_
  rintro _ hb4 ⟨c4, rfl, P4, KB4⟩
  have NN4 := Keeps.new (Ch.wf KB4) 26 (reC rc0)
  obtain ⟨hc4, e4, V4, C4, z4⟩ := (Var.new (e := 26) (Ch.wf KB4) (cs := reC rc0)).put (Ch.wf NN4) (d := c4) P4.one1.1 P4.one1.2
  have KC4 : Keeps hb4 hc4 := NN4.step C4 fun b e => by omega
  have Q4 := ReR.ch KC4 (fun _ e => e.elim) _ _ P4
  simp only [wk, wt, wl, ↓reduceIte, Nat.reduceEqDiff, Nat.reduceAdd, Nat.zero_add, not_false_eq_true, not_true_eq_false, newRe, newSz, e4]
  have M1 : parseR [97, 98, 42] = (.mk 8 0 [] false 0 0 [pR 97, pStar 0 (-1) (pR 98)], 0) := rfl
  have M2 : parseR [92, 40, 97, 92, 124, 98, 92, 41, 36] = (.mk 8 0 [] false 0 0 [pG 1 (.mk 9 0 [] false 0 0 [pR 97, pR 98]), pK 5], 0) := rfl
  have M3 : parseR [97, 92, 123, 50] = (pE, 10) := rfl
  have M4 : parseR [92, 123, 50, 92, 125] = (pE, 11) := rfl
  have K1 : Keeps hc1 hc4 := ((KA2.trans (KB2.trans KC2)).trans (KA3.trans (KB3.trans KC3))).trans (KA4.trans (KB4.trans KC4))
  have K2 : Keeps hc2 hc4 := (KA3.trans (KB3.trans KC3)).trans (KA4.trans (KB4.trans KC4))
  have W1 := Keeps.var (Ch.wf C1) K1 V1
  have W2 := Keeps.var (Ch.wf C2) K2 V2
  have R1 := ReR.ch K1 (fun _ e => e.elim) _ _ Q1
  have R2 := ReR.ch K2 (fun _ e => e.elim) _ _ Q2
  rw [M1] at R1
  rw [M2] at R2
  obtain ⟨a1, _, _, _, _, _, _, _, l1, S1', A1⟩ := R1
  obtain ⟨b1, _, _, _, _, _, _, _, l2, S2', A2⟩ := R2
  have LN1 := RS.len S1' underlying24
  have LN2 := RS.len S2' underlying24
  rw [A1.len] at LN1
  rw [A2.len] at LN2
  have LM1 : abuiltin prog .len #[24] #[c1.pv] = some (.int .i64 2) := LN1
  have LM2 : abuiltin prog .len #[24] #[c2.pv] = some (.int .i64 2) := LN2
  obtain ⟨x1, hx1, X1⟩ := A1.at (i := 1) rfl
  obtain ⟨y0, hy0, Y0⟩ := A2.at (i := 0) rfl
  obtain ⟨y1, hy1, Y1⟩ := A2.at (i := 1) rfl
  have FX1 := RS.fld S1' reC_len (t := 3) underlying3 rfl hx1 (j := 0) (by omega)
  have FY0 := RS.fld S2' reC_len (t := 3) underlying3 rfl hy0 (j := 4) (by omega)
  have FY1 := RS.fld S2' reC_len (t := 3) underlying3 rfl hy1 (j := 0) (by omega)
  have IX1 : aindexAddr prog 24 c1.pv (.int .i64 1) = some (.pointer (some (eltA c1.pv 7 1))) := Rd.index S1' underlying24 asz26 (q := .i64) (i := 1) (by omega) (by rw [A1.len]; decide)
  have IY0 : aindexAddr prog 24 c2.pv (.int .i64 0) = some (.pointer (some (eltA c2.pv 7 0))) := Rd.index S2' underlying24 asz26 (q := .i64) (i := 0) (by omega) (by rw [A2.len]; decide)
  have IY1 : aindexAddr prog 24 c2.pv (.int .i64 1) = some (.pointer (some (eltA c2.pv 7 1))) := Rd.index S2' underlying24 asz26 (q := .i64) (i := 1) (by omega) (by rw [A2.len]; decide)
  have k1 : c1.k = 8 := a1
  have x1k : x1.k = 10 := X1.kind
  have y1k : y1.k = 5 := Y1.kind
  have y0l : y0.lo = 1 := Y0.2.2.2.1
  simp only [reC, List.getElem?_cons_succ, List.getElem?_cons_zero] at FX1 FY0 FY1
  rw [x1k] at FX1
  rw [y0l] at FY0
  rw [y1k] at FY1
  have LK1 := W1.k0
  rw [k1] at LK1
  simp only [wk, wt, wl, ↓reduceIte, Nat.reduceEqDiff, Nat.reduceAdd, Nat.zero_add, not_false_eq_true, not_true_eq_false, M1, M2, M3, M4, LK1, W1.k6, W2.k6, LM1, LM2, IX1, IY0, IY1, FX1, FY0, FY1, List.length_cons, List.length_nil]
  exact (KA1.trans (KB1.trans KC1)).trans K1
end Go.Proofs.Ytnnkcbkenofhmaa.Am
