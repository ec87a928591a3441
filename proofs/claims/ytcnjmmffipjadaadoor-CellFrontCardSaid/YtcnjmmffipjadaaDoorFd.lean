/- The unit that a rune makes: the contract of cell.unit, by a walk. -/
import Derived.Test.YtcnjmmffipjadaaDoorFc
set_option linter.unusedSimpArgs false
set_option linter.unusedVariables false
set_option maxHeartbeats 1000000
namespace Go.Proofs.YtcnjmmffipjadaaDoor.Am
open Go Go.RowKit Go.Proofs.Tryd
def vI (l : List Int) : List Value := l.map (Value.int .i32)
def utext (r col tab : Int) : List Int := if r = 9 then List.replicate (tab - col % tab).toNat 32 else if widthZ r = 0 then [32, r] else showL r
def uwidth (r col tab : Int) : Int := if r = 9 then tab - col % tab else if widthZ r = 0 then 1 else widthZ r
theorem build_unit {h : Heap} {x y z : Int} : abuild prog 36 #[(0, .int .i64 x), (1, .int .i64 y), (2, .int .i64 z)] = some (.agg #[.int .i64 x, .int .i64 y, .int .i64 z, .int .i64 0, .slice none 0 0]) := by
  simp [abuild, wt, aplaces, Instr.fill, Value.cells]
theorem unit_ok {r i col tab : Int} {h : Heap} (h0 : isR r) (G : Gl h) (ht : 1 ≤ tab ∧ tab ≤ 64) (hc : 0 ≤ col ∧ col ≤ 1000000) (hi : 0 ≤ i ∧ i ≤ 1000000) :
    ACalls prog 30 #[.int .i32 r, .int .i64 i, .int .i64 col, .int .i64 tab] h
      (fun v h' => ∃ tv, v = .agg #[.int .i64 i, .int .i64 (i + 1), .int .i64 col, .int .i64 (uwidth r col tab), tv] ∧ Keeps h h' ∧ Own prog h.size h' 1 tv (utext r col tab).length (vI (utext r col tab)) ∧ ∀ b, blkOf tv = some b → h.size ≤ b) := by
  refine acalls_of_W' func30 rfl (by kernel_rfl) (by kernel_rfl) (by simp [ntmps30]) ?_
  intro H
  simp (disch := omega) only [wk, wt, wl, ↓reduceIte, Nat.reduceEqDiff, Nat.reduceAdd, Nat.zero_add, not_false_eq_true, not_true_eq_false, build_unit (h := h), IntWalk.i64_in, new_size]
  have K0 : Keeps h _ := Keeps.new H 36 [Value.int IntKind.i64 0, Value.int IntKind.i64 0, Value.int IntKind.i64 0, Value.int IntKind.i64 0, Value.slice none 0 0]
  have VA := Var.new (e := 36) H (cs := [Value.int IntKind.i64 0, Value.int IntKind.i64 0, Value.int IntKind.i64 0, Value.int IntKind.i64 0, Value.slice none 0 0])
  generalize hA : h.new 36 [Value.int IntKind.i64 0, Value.int IntKind.i64 0, Value.int IntKind.i64 0, Value.int IntKind.i64 0, Value.slice none 0 0] = hA' at *
  have zA : hA'.size = h.size + 1 := by rw [← hA]; rfl
  have K1 := Keeps.new (Ch.wf K0) 36 [Value.int IntKind.i64 0, Value.int IntKind.i64 0, Value.int IntKind.i64 0, Value.int IntKind.i64 0, Value.slice none 0 0]
  have VB := Var.new (e := 36) (Ch.wf K0) (cs := [Value.int IntKind.i64 0, Value.int IntKind.i64 0, Value.int IntKind.i64 0, Value.int IntKind.i64 0, Value.slice none 0 0])
  have VA1 := Keeps.var (Ch.wf K0) K1 VA
  rw [zA] at VB
  obtain ⟨h1, e1, VB1, C1, z1⟩ := VB.store (P := prog) (t := 36) (v := .agg #[.int .i64 i, .int .i64 (i + 1), .int .i64 col, .int .i64 0, .slice none 0 0]) (i := 0) (Ch.wf K1) asz36 (by simp [Value.cells]) (by simp [Value.cells, one])
  rw [e1]
  have VA2 := Ch.var (Ch.wf K1) C1 VA1 (by omega)
  have K2 : Keeps h h1 := (K0.trans K1).step C1 (fun b hb => by omega)
  clear e1 hA
  simp only [Value.cells, over_all (xs := [Value.int IntKind.i64 0, Value.int IntKind.i64 0, Value.int IntKind.i64 0, Value.int IntKind.i64 0, Value.slice none 0 0]) (vs := [.int .i64 i, .int .i64 (i + 1), .int .i64 col, .int .i64 0, .slice none 0 0]) rfl] at VB1
  have hm : tab ≠ 0 := by omega
  have hm0 : 0 ≤ col % tab := Int.emod_nonneg _ hm
  have hm1 : col % tab < tab := Int.emod_lt_of_pos _ (by omega)
  simp (disch := omega) only [wk, wt, wl, ↓reduceIte, Nat.reduceEqDiff, Nat.reduceAdd, Nat.zero_add, not_false_eq_true, not_true_eq_false]
  refine (width_ok h0 (G.keeps K2)).use_pure ?_
  simp only [wk, wt, wl, ↓reduceIte, Nat.reduceEqDiff, Nat.reduceAdd, Nat.zero_add, not_false_eq_true, not_true_eq_false]
  refine condK_dec (fun hr => ?_) (fun hr => ?_)
  · subst hr
    simp (disch := omega) only [wk, wt, wl, ↓reduceIte, Nat.reduceEqDiff, Nat.reduceAdd, Nat.zero_add, not_false_eq_true, not_true_eq_false, abin_rem (P := prog) (t := 3) (k := .i64) (x := col) (y := tab) hm, Int.tmod_eq_emod_of_nonneg, IntWalk.i64_in]
    obtain ⟨h2, e2, VB2, C2, z2⟩ := VB1.store1 (P := prog) (t := 3) (v := .int .i64 (tab - col % tab)) (i := 3) (Ch.wf K2) asz3 (by simp) rfl
    rw [e2]; clear e2
    have VA3 := Ch.var (Ch.wf K2) C2 VA2 (by omega)
    have K3 : Keeps h h2 := K2.step C2 (fun b hb => by omega)
    simp only [List.set_cons_succ, List.set_cons_zero] at VB2
    simp (disch := omega) only [wk, wt, wl, ↓reduceIte, Nat.reduceEqDiff, Nat.reduceAdd, Nat.zero_add, not_false_eq_true, not_true_eq_false, VB2.load1 (P := prog) (t := 3) underlying3 rfl (i := 3)]
    clear C1 C2 VA VA1 VB VB1 VA2 K0 K1 K2 z1 z2
    refine W_loop (fun tm h' => Keeps h h' ∧ tm 8 = .pointer (some ⟨h.size, 0, none⟩) ∧ tm 9 = .pointer (some ⟨h.size + 1, 0, none⟩) ∧ tm 33 = .int .i64 (tab - col % tab) ∧ ∃ (j : Nat) (tv : Value), tm 34 = .int .i64 j ∧ (j : Int) ≤ tab - col % tab ∧
      Var h' h.size [Value.int IntKind.i64 0, Value.int IntKind.i64 0, Value.int IntKind.i64 0, Value.int IntKind.i64 0, Value.slice none 0 0] ∧ Var h' (h.size + 1) [.int .i64 i, .int .i64 (i + 1), .int .i64 col, .int .i64 (tab - col % tab), tv] ∧
      (∀ b, blkOf tv = some b → h.size + 2 ≤ b) ∧ Own prog h.size h' 1 tv j (vI (List.replicate j 32)))
      (fun tm _ => (tab - col % tab - intOf (tm 34)).toNat) ⟨K3, (by first | rfl | (simp only [wk, wt, wl, ↓reduceIte, Nat.reduceEqDiff, Nat.reduceAdd, Nat.zero_add, not_false_eq_true, not_true_eq_false]; done) | (simp only [wk, wt, wl, ↓reduceIte, Nat.reduceEqDiff, Nat.reduceAdd, Nat.zero_add, not_false_eq_true, not_true_eq_false]; rfl)), (by first | rfl | (simp only [wk, wt, wl, ↓reduceIte, Nat.reduceEqDiff, Nat.reduceAdd, Nat.zero_add, not_false_eq_true, not_true_eq_false]; done) | (simp only [wk, wt, wl, ↓reduceIte, Nat.reduceEqDiff, Nat.reduceAdd, Nat.zero_add, not_false_eq_true, not_true_eq_false]; rfl)), (by first | rfl | (simp only [wk, wt, wl, ↓reduceIte, Nat.reduceEqDiff, Nat.reduceAdd, Nat.zero_add, not_false_eq_true, not_true_eq_false]; done) | (simp only [wk, wt, wl, ↓reduceIte, Nat.reduceEqDiff, Nat.reduceAdd, Nat.zero_add, not_false_eq_true, not_true_eq_false]; rfl)), 0, .slice none 0 0, (by first | rfl | (simp only [wk, wt, wl, ↓reduceIte, Nat.reduceEqDiff, Nat.reduceAdd, Nat.zero_add, not_false_eq_true, not_true_eq_false]; done) | (simp only [wk, wt, wl, ↓reduceIte, Nat.reduceEqDiff, Nat.reduceAdd, Nat.zero_add, not_false_eq_true, not_true_eq_false]; rfl)), by omega, VA3, VB2, by simp [blkOf], Own.nil0⟩ ?_
    clear VA3 VB2 K3 zA
    rintro tm h' ⟨K, t8, t9, t33, j, tv, t34, hj, VA, VB, nb, O⟩
    have nb1 : blkOf tv ≠ some h.size := fun e => by have := nb _ e; omega
    have nb2 : blkOf tv ≠ some (h.size + 1) := fun e => by have := nb _ e; omega
    simp (disch := omega) only [wk, wt, wl, ↓reduceIte, Nat.reduceEqDiff, Nat.reduceAdd, Nat.zero_add, not_false_eq_true, not_true_eq_false, t8, t9, t33, t34]
    refine condK_dec (fun hd => ?_) (fun hd => ?_)
    · simp (disch := omega) only [wk, wt, wl, ↓reduceIte, Nat.reduceEqDiff, Nat.reduceAdd, Nat.zero_add, not_false_eq_true, not_true_eq_false, t8, t9, t33, t34, VB.load1 (P := prog) (t := 24) underlying24 rfl (i := 4)]
      obtain ⟨tv', h3, e3, O3, C3, R3, ev3, k3, f3, f4⟩ := O.append1 (P := prog) (Ch.wf K) (Ch.le K) underlying24 elem21 fits21 (by decide) (by decide) (xs := [.int .i32 32]) rfl (by omega)
      rw [e3]; clear e3
      have VA3 := Ch.var (Ch.wf K) C3 VA (fun e => nb1 e.1)
      have VB3 := Ch.var (Ch.wf K) C3 VB (fun e => nb2 e.1)
      have K3 : Keeps h h3 := K.step C3 (fun b hb => hb.2)
      obtain ⟨h4, e4, VB4, C4, z4⟩ := VB3.store1 (P := prog) (t := 24) (v := tv') (i := 4) (Ch.wf K3) asz24 (by simp) (by rw [ev3]; rfl)
      simp (disch := omega) only [wk, wt, wl, ↓reduceIte, Nat.reduceEqDiff, Nat.reduceAdd, Nat.zero_add, not_false_eq_true, not_true_eq_false, t8, t9, t33, t34]
      rw [e4]; clear e4
      have VA4 := Ch.var (Ch.wf K3) C4 VA3 (by omega)
      have K4 : Keeps h h4 := K3.step C4 (fun b hb => by omega)
      have hsz : h.size + 2 ≤ h'.size := by have := VB.lt (Ch.wf K); omega
      have O4 := Ch.own C4 O3 (fun b hb e => by rw [ev3] at hb; simp only [blkOf, Option.some.injEq] at hb; omega)
      simp only [List.set_cons_succ, List.set_cons_zero] at VB4
      simp (disch := omega) only [wk, wt, wl, ↓reduceIte, Nat.reduceEqDiff, Nat.reduceAdd, Nat.zero_add, not_false_eq_true, not_true_eq_false, t8, t9, t33, t34, IntWalk.i64_in, intOf_int]
      refine ⟨⟨K4, j + 1, tv', by simp, by omega, VA4, VB4, ?_, ?_⟩, by omega⟩
      · intro b hb; rw [ev3] at hb; simp only [blkOf, Option.some.injEq] at hb; omega
      · rw [show vI (List.replicate (j + 1) 32) = vI (List.replicate j 32) ++ [.int .i32 32] by simp [vI, List.replicate_succ']]
        exact O4
    · simp (disch := omega) only [wk, wt, wl, ↓reduceIte, Nat.reduceEqDiff, Nat.reduceAdd, Nat.zero_add, not_false_eq_true, not_true_eq_false, t8, t9, t33, t34, VB.loadA (P := prog) (t := 36) underlying36 rfl asz36]
      obtain ⟨h3, e3, VA3, C3, z3⟩ := VA.store (P := prog) (t := 36) (v := .agg #[.int .i64 i, .int .i64 (i + 1), .int .i64 col, .int .i64 (tab - col % tab), tv]) (i := 0) (Ch.wf K) asz36 (by simp [Value.cells]) (by simp [Value.cells, one_int, O.1.one])
      rw [e3]; clear e3
      simp only [Value.cells, over_all (xs := [Value.int IntKind.i64 0, Value.int IntKind.i64 0, Value.int IntKind.i64 0, Value.int IntKind.i64 0, Value.slice none 0 0]) (vs := [.int .i64 i, .int .i64 (i + 1), .int .i64 col, .int .i64 (tab - col % tab), tv]) rfl] at VA3
      simp (disch := omega) only [wk, wt, wl, ↓reduceIte, Nat.reduceEqDiff, Nat.reduceAdd, Nat.zero_add, not_false_eq_true, not_true_eq_false, t8, t9, t33, t34, VA3.loadA (P := prog) (t := 36) underlying36 rfl asz36]
      have hj' : (j : Int) = tab - col % tab := by omega
      have hu : utext 9 col tab = List.replicate j 32 := by simp only [utext, if_true]; rw [← hj']; simp
      refine ⟨tv, by simp [uwidth], K.step C3 (fun b hb => by omega), ?_⟩
      rw [hu, List.length_replicate]
      exact ⟨Ch.own C3 O (fun b hb e => nb1 (by rw [← e]; exact hb)), fun b hb => by have := nb b hb; omega⟩
  · simp only [wk, wt, wl, ↓reduceIte, Nat.reduceEqDiff, Nat.reduceAdd, Nat.zero_add, not_false_eq_true, not_true_eq_false]
    refine condK_dec (fun hw => ?_) (fun hw => ?_)
    · simp only [wk, wt, wl, ↓reduceIte, Nat.reduceEqDiff, Nat.reduceAdd, Nat.zero_add, not_false_eq_true, not_true_eq_false]
      have hB : h.size + 1 < h1.size := VB1.lt (Ch.wf K2)
      have KN := Keeps.new (Ch.wf K2) 21 [.int .i32 32, .int .i32 r]
      have K3 := K2.trans KN
      have VA3 := Keeps.var (Ch.wf K2) KN VA2
      have VB2 := Keeps.var (Ch.wf K2) KN VB1
      have O3 : Own prog h.size _ 1 (.slice (some ⟨h1.size, 0, none⟩) 2 3) 2 [.int .i32 32, .int .i32 r] := Own.new (Ch.wf K2) (e := 21) (by omega) asz21 (by simp)
      generalize htv : Value.slice (some ⟨h1.size, 0, none⟩) 2 3 = tv at *
      have nb1 : blkOf tv ≠ some h.size := by rw [← htv]; simp only [blkOf, ne_eq, Option.some.injEq]; omega
      have nb2 : blkOf tv ≠ some (h.size + 1) := by rw [← htv]; simp only [blkOf, ne_eq, Option.some.injEq]; omega
      generalize h1.new 21 [.int .i32 32, .int .i32 r] = hN at *
      obtain ⟨h2, e2, VB3, C2, z2⟩ := VB2.store1 (P := prog) (t := 3) (v := .int .i64 1) (i := 3) (Ch.wf K3) asz3 (by simp) rfl
      rw [e2]; clear e2
      have VA4 := Ch.var (Ch.wf K3) C2 VA3 (by omega)
      have K4 : Keeps h h2 := K3.step C2 (fun b hb => by omega)
      have O4 := Ch.own C2 O3 (fun b hb e => nb2 (by rw [← e]; exact hb))
      simp only [List.set_cons_succ, List.set_cons_zero] at VB3
      obtain ⟨h3, e3, VB4, C3, z3⟩ := VB3.store1 (P := prog) (t := 24) (v := tv) (i := 4) (Ch.wf K4) asz24 (by simp) O4.1.one
      simp (disch := omega) only [wk, wt, wl, ↓reduceIte, Nat.reduceEqDiff, Nat.reduceAdd, Nat.zero_add, not_false_eq_true, not_true_eq_false]
      rw [e3]; clear e3
      have VA5 := Ch.var (Ch.wf K4) C3 VA4 (by omega)
      have K5 : Keeps h h3 := K4.step C3 (fun b hb => by omega)
      have O5 := Ch.own C3 O4 (fun b hb e => nb2 (by rw [← e]; exact hb))
      simp only [List.set_cons_succ, List.set_cons_zero] at VB4
      simp (disch := omega) only [wk, wt, wl, ↓reduceIte, Nat.reduceEqDiff, Nat.reduceAdd, Nat.zero_add, not_false_eq_true, not_true_eq_false, VB4.loadA (P := prog) (t := 36) underlying36 rfl asz36]
      obtain ⟨h4, e4, VA6, C4, z4⟩ := VA5.store (P := prog) (t := 36) (v := .agg #[.int .i64 i, .int .i64 (i + 1), .int .i64 col, .int .i64 1, tv]) (i := 0) (Ch.wf K5) asz36 (by simp [Value.cells]) (by simp [Value.cells, one_int, O4.1.one])
      rw [e4]; clear e4
      simp only [Value.cells, over_all (xs := [Value.int IntKind.i64 0, Value.int IntKind.i64 0, Value.int IntKind.i64 0, Value.int IntKind.i64 0, Value.slice none 0 0]) (vs := [.int .i64 i, .int .i64 (i + 1), .int .i64 col, .int .i64 1, tv]) rfl] at VA6
      simp (disch := omega) only [wk, wt, wl, ↓reduceIte, Nat.reduceEqDiff, Nat.reduceAdd, Nat.zero_add, not_false_eq_true, not_true_eq_false, VA6.loadA (P := prog) (t := 36) underlying36 rfl asz36]
      have hu : utext r col tab = [32, r] := by simp only [utext, hr, hw, if_false, if_true]
      have hu2 : uwidth r col tab = 1 := by simp only [uwidth, hr, hw, if_false, if_true]
      refine ⟨tv, by rw [hu2], K5.step C4 (fun b hb => by omega), ?_⟩
      rw [hu]
      exact ⟨Ch.own C4 O5 (fun b hb e => nb1 (by rw [← e]; exact hb)), fun b hb => by rw [← htv] at hb; simp only [blkOf, Option.some.injEq] at hb; omega⟩
    · simp only [wk, wt, wl, ↓reduceIte, Nat.reduceEqDiff, Nat.reduceAdd, Nat.zero_add, not_false_eq_true, not_true_eq_false]
      refine (show_ok h0).use_pure ?_
      simp only [wk, wt, wl, ↓reduceIte, Nat.reduceEqDiff, Nat.reduceAdd, Nat.zero_add, not_false_eq_true, not_true_eq_false]
      have hB : h.size + 1 < h1.size := VB1.lt (Ch.wf K2)
      have KN := Keeps.new (Ch.wf K2) 21 ((showL r).map (Value.int .i32))
      have K3 := K2.trans KN
      have VA3 := Keeps.var (Ch.wf K2) KN VA2
      have VB2 := Keeps.var (Ch.wf K2) KN VB1
      have O3 : Own prog h.size _ 1 (.slice (some ⟨h1.size, 0, none⟩) (showL r).length ((showL r).length + 1)) (showL r).length ((showL r).map (Value.int .i32)) := Own.new (Ch.wf K2) (e := 21) (by omega) asz21 (by simp)
      generalize htv : Value.slice (some ⟨h1.size, 0, none⟩) (showL r).length ((showL r).length + 1) = tv at *
      have nb1 : blkOf tv ≠ some h.size := by rw [← htv]; simp only [blkOf, ne_eq, Option.some.injEq]; omega
      have nb2 : blkOf tv ≠ some (h.size + 1) := by rw [← htv]; simp only [blkOf, ne_eq, Option.some.injEq]; omega
      generalize h1.new 21 ((showL r).map (Value.int .i32)) = hN at *
      obtain ⟨h2, e2, VB3, C2, z2⟩ := VB2.store1 (P := prog) (t := 3) (v := .int .i64 (widthZ r)) (i := 3) (Ch.wf K3) asz3 (by simp) rfl
      rw [e2]; clear e2
      have VA4 := Ch.var (Ch.wf K3) C2 VA3 (by omega)
      have K4 : Keeps h h2 := K3.step C2 (fun b hb => by omega)
      have O4 := Ch.own C2 O3 (fun b hb e => nb2 (by rw [← e]; exact hb))
      simp only [List.set_cons_succ, List.set_cons_zero] at VB3
      obtain ⟨h3, e3, VB4, C3, z3⟩ := VB3.store1 (P := prog) (t := 24) (v := tv) (i := 4) (Ch.wf K4) asz24 (by simp) O4.1.one
      simp (disch := omega) only [wk, wt, wl, ↓reduceIte, Nat.reduceEqDiff, Nat.reduceAdd, Nat.zero_add, not_false_eq_true, not_true_eq_false]
      rw [e3]; clear e3
      have VA5 := Ch.var (Ch.wf K4) C3 VA4 (by omega)
      have K5 : Keeps h h3 := K4.step C3 (fun b hb => by omega)
      have O5 := Ch.own C3 O4 (fun b hb e => nb2 (by rw [← e]; exact hb))
      simp only [List.set_cons_succ, List.set_cons_zero] at VB4
      simp (disch := omega) only [wk, wt, wl, ↓reduceIte, Nat.reduceEqDiff, Nat.reduceAdd, Nat.zero_add, not_false_eq_true, not_true_eq_false, VB4.loadA (P := prog) (t := 36) underlying36 rfl asz36]
      obtain ⟨h4, e4, VA6, C4, z4⟩ := VA5.store (P := prog) (t := 36) (v := .agg #[.int .i64 i, .int .i64 (i + 1), .int .i64 col, .int .i64 (widthZ r), tv]) (i := 0) (Ch.wf K5) asz36 (by simp [Value.cells]) (by simp [Value.cells, one_int, O4.1.one])
      rw [e4]; clear e4
      simp only [Value.cells, over_all (xs := [Value.int IntKind.i64 0, Value.int IntKind.i64 0, Value.int IntKind.i64 0, Value.int IntKind.i64 0, Value.slice none 0 0]) (vs := [.int .i64 i, .int .i64 (i + 1), .int .i64 col, .int .i64 (widthZ r), tv]) rfl] at VA6
      simp (disch := omega) only [wk, wt, wl, ↓reduceIte, Nat.reduceEqDiff, Nat.reduceAdd, Nat.zero_add, not_false_eq_true, not_true_eq_false, VA6.loadA (P := prog) (t := 36) underlying36 rfl asz36]
      have hu : utext r col tab = showL r := by simp only [utext, hr, hw, if_false, if_true]
      have hu2 : uwidth r col tab = (widthZ r) := by simp only [uwidth, hr, hw, if_false, if_true]
      refine ⟨tv, by rw [hu2], K5.step C4 (fun b hb => by omega), ?_⟩
      rw [hu]
      exact ⟨Ch.own C4 O5 (fun b hb e => nb1 (by rw [← e]; exact hb)), fun b hb => by rw [← htv] at hb; simp only [blkOf, Option.some.injEq] at hb; omega⟩
end Go.Proofs.YtcnjmmffipjadaaDoor.Am
