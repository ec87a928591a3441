/- The examples of the seventeenth chapter: contracts of slices.Clone, slices.Insert and fold.Make where there are no folds, and of awake, by walks. -/
import Derived.Test.YtgfccaaalkkdlaaOf
set_option linter.unusedSimpArgs false
set_option linter.unusedVariables false
set_option maxHeartbeats 4000000
set_option maxRecDepth 20000
namespace Go.Proofs.Ytgfccaaalkkdlaa.Am
open Go Go.RowKit Go.Proofs.Try
theorem eq_fold {x y : Int} {c : Bool} : abin prog .eql 36 (.agg #[.int .i64 x, .int .i64 y, .bool c]) (.agg #[.int .i64 x, .int .i64 y, .bool c]) = some (.bool true) := by
  simp [abin, aeq, underlying36, stood_fold, guard_fold, aeqF, apart, aeq1, wt, isAggD]
theorem nil_eq {t e : TypeId} {P : Program} (ht : P.underlying t = some (.slice e)) : abin P .eql t (.slice none 0 0) (.slice none 0 0) = some (.bool true) := by simp [abin, aeq, ht]
theorem cloneN_ok {h : Heap} : ACalls prog 34 #[.slice none 0 0] h (fun y h' => y = .slice none 0 0 ∧ h' = h) := by
  refine acalls_of_W func34 rfl (by kernel_rfl) (by kernel_rfl) (by simp [ntmps34]) ?_
  simp only [wk, wt, wl, ↓reduceIte, Nat.reduceEqDiff, Nat.reduceAdd, Nat.zero_add, not_false_eq_true, not_true_eq_false, nil_eq (P := prog) underlying22]
theorem insertN_ok {x : Value} {f : F} {h : Heap} (X : FR h x [f]) : ACalls prog 33 #[.slice none 0 0, .int .i64 0, x] h (fun y h' => OS prog h.size h' 3 cF y [f] ∧ Keeps h h') := by
  refine acalls_of_W' func33 rfl (by kernel_rfl) (by kernel_rfl) (by simp [ntmps33]) ?_
  intro H
  have N0 : FR h (.slice none 0 0) [] := Rd.nil0
  have d1 : decide ((1 : Int) = 0) = false := by decide
  have d0 : decide ((0 : Int) = 0) = true := by decide
  have L1 : abuiltin prog .len #[22] #[x] = some (.int .i64 1) := X.len underlying22
  have L0 : abuiltin prog .len #[22] #[.slice none 0 0] = some (.int .i64 0) := N0.len underlying22
  have S0 := Rd.sliceLo N0 underlying22 asz36 (q := .i64) (i := 0) (by omega) (by simp)
  simp only [wk, wt, wl, ↓reduceIte, Nat.reduceEqDiff, Nat.reduceAdd, Nat.zero_add, not_false_eq_true, not_true_eq_false, S0, L1, L0, d0, d1]
  obtain ⟨v2, h2, e2, O2, R2, C2, _⟩ := (OS.nil (P := prog) (B := h.size) (h := h) (s := 3) (c := cF)).appendRS H (Nat.le_refl _) underlying22 elem36 fits36 (by decide) X (by simp)
  rw [e2]; clear e2
  simp only [wk, wt, wl, ↓reduceIte, Nat.reduceEqDiff, Nat.reduceAdd, Nat.zero_add, not_false_eq_true, not_true_eq_false]
  exact ⟨O2, (Keeps.refl H).step C2 fun b hb => hb.2⟩
theorem make0_ok {h : Heap} : ACalls prog 23 #[.slice none 0 0, .int .i64 2, .int .i64 4] h (fun y h' => ∃ v, y = .tuple #[v, .int .i64 0] ∧ FR h' v [⟨2, 4, true⟩] ∧ Keeps h h') := by
  refine acalls_of_W' func23 rfl (by kernel_rfl) (by kernel_rfl) (by simp [ntmps23]) ?_
  intro H
  have N0 : FR h (.slice none 0 0) [] := Rd.nil0
  simp only [wk, wt, wl, ↓reduceIte, Nat.reduceEqDiff, Nat.reduceAdd, Nat.zero_add, not_false_eq_true, not_true_eq_false]
  refine (right_ok N0 (by simp)).use ?_
  rintro _ h2 ⟨rfl, K2⟩
  have hr : rightB [] = true := rfl
  have d1 : decide ((2 : Int) < 0) = false := by decide
  have d2 : decide ((4 : Int) ≤ 2) = false := by decide
  have d3 : decide ((1073741824 : Int) < 4) = false := by decide
  simp only [wk, wt, wl, ↓reduceIte, Nat.reduceEqDiff, Nat.reduceAdd, Nat.zero_add, not_false_eq_true, not_true_eq_false, hr, Bool.not_true, d1, d2, d3]
  refine (find_ok (x := 2) (N0.keeps K2) hr).use ?_
  rintro _ h3 ⟨i, rfl, hi, _, _, K3⟩
  obtain rfl : i = 0 := by simpa using hi
  have L0 : abuiltin prog .len #[22] #[.slice none 0 0] = some (.int .i64 0) := N0.len underlying22
  have d4 : decide ((0 : Int) < 0) = false := by decide
  have d5 : decide ((0 : Int) = 64) = false := by decide
  simp only [wk, wt, wl, ↓reduceIte, Nat.reduceEqDiff, Nat.reduceAdd, Nat.zero_add, not_false_eq_true, not_true_eq_false, L0, Int.cast_ofNat_Int, d4, d5]
  refine cloneN_ok.use_pure ?_
  simp only [wk, wt, wl, ↓reduceIte, Nat.reduceEqDiff, Nat.reduceAdd, Nat.zero_add, not_false_eq_true, not_true_eq_false, build_f3, bsf]
  have K4 := K2.trans K3
  have N5 := Keeps.new (Ch.wf K4) 36 (cF ⟨2, 4, true⟩)
  have X5 : FR (h3.new 36 (cF ⟨2, 4, true⟩)) (.slice (some ⟨h3.size, 0, none⟩) 1 2) [⟨2, 4, true⟩] := Rd.new (Ch.wf K4) asz36 rfl
  refine (insertN_ok X5).use ?_
  rintro v6 h6 ⟨O6, K6⟩
  simp only [wk, wt, wl, ↓reduceIte, Nat.reduceEqDiff, Nat.reduceAdd, Nat.zero_add, not_false_eq_true, not_true_eq_false]
  exact ⟨v6, rfl, O6.rs, (K4.trans N5).trans K6⟩
theorem RowsR.mk {l : List F} {n i j : Int} {e : F} {r : List F} (h : i < n) (hj : nextZ1 l i = j) (he : e = ⟨i, (if n < j then n else j) - 1, (shutF l i).isSome⟩) (t : RowsR l n j r) : RowsR l n i (e :: r) := by
  subst hj; subst he; exact .step h t
theorem rowsA : RowsR [⟨2, 4, true⟩] 6 0 [⟨0, 0, false⟩, ⟨1, 1, false⟩, ⟨2, 4, true⟩, ⟨5, 5, false⟩] :=
  .mk (j := 1) (by decide) (by decide) rfl (.mk (j := 2) (by decide) (by decide) rfl (.mk (j := 5) (by decide) (by decide) rfl (.mk (j := 6) (by decide) (by decide) rfl (.done (by decide)))))
theorem adjA : [(⟨2, 4, true⟩ : F)].filterMap (adjF 0 (0 : Nat) (1 : Nat)) = [⟨3, 5, true⟩] := rfl
theorem adjB : [(⟨2, 4, true⟩ : F)].filterMap (adjF 3 (5 : Nat) (0 : Nat)) = [] := rfl
theorem build_c2 {v : Value} (h : one v = true) : abuild prog 31 #[(2, v)] = some (chV 0 (.slice none 0 0) v) := by
  have h1 : v.cells = #[v] := one_cells h
  simp [abuild, wt, aplaces, Instr.fill, h1, chV]
  simp [Value.cells]
theorem build_c01 {x : Int} {v : Value} (h : one v = true) : abuild prog 31 #[(0, .int .i64 x), (1, v)] = some (chV x v (.slice none 0 0)) := by
  have h1 : v.cells = #[v] := one_cells h
  simp [abuild, wt, aplaces, Instr.fill, h1, chV]
  simp [Value.cells]
theorem ms5 {h : Heap} : ∃ cs, amakeSlice prog h 29 (.int .i64 5) (.int .i64 5) = some (.slice (some ⟨h.size, 0, none⟩) 5 6, h.new 78 cs) :=
  ⟨_, by simp [amakeSlice, underlying29, elem78, azero78, fits78.2.1, fits78.2.2, Value.cells, one]; rfl⟩
theorem bs1c {h : Heap} {v : Value} (hv : one v = true) : abuildSlice prog h 29 1 #[(0, v)] = some (.slice (some ⟨h.size, 0, none⟩) 1 2, h.new 78 [v]) := build1 underlying29 asz78 azero78 rfl hv
theorem awake_ok {h : Heap} : ACalls prog 18 #[] h (fun v h' => v = .bool true ∧ Keeps h h') := by
  refine acalls_of_W' func18 rfl (by kernel_rfl) (by kernel_rfl) (by simp [ntmps18]) ?_
  intro H
  have hr : rightB [⟨2, 4, true⟩] = true := by decide
  have hn : nearF [⟨2, 4, true⟩] = true := by decide
  simp only [wk, wt, wl, ↓reduceIte, Nat.reduceEqDiff, Nat.reduceAdd, Nat.zero_add, not_false_eq_true, not_true_eq_false]
  refine make0_ok.use ?_
  rintro _ h2 ⟨l1, rfl, R1, K2⟩
  simp only [wk, wt, wl, ↓reduceIte, Nat.reduceEqDiff, Nat.reduceAdd, Nat.zero_add, not_false_eq_true, not_true_eq_false]
  refine (rows_ok (n := 6) R1 (by simp) hn (by omega) hr).use ?_
  rintro rv h3 ⟨r, hrows, R3, _, K3⟩
  obtain rfl := hrows.det rowsA
  have K13 := K2.trans K3
  have len29 : ∀ (a : Option Addr) (n c : Nat), abuiltin prog .len #[29] #[.slice a n c] = some (.int .i64 n) := fun a n c => by simp [abuiltin, underlying29]
  simp only [wk, wt, wl, ↓reduceIte, Nat.reduceEqDiff, Nat.reduceAdd, Nat.zero_add, not_false_eq_true, not_true_eq_false, bs1c (v := .slice none 0 0) rfl, build_c2 (v := .slice (some ⟨h3.size, 0, none⟩) 1 2) rfl]
  have N4 := Keeps.new (Ch.wf K13) 78 [.slice none 0 0]
  have R1a : FR (h3.new 78 [.slice none 0 0]) l1 [⟨2, 4, true⟩] := RS.keeps R1 (K3.trans N4)
  refine (adjust_ok (c := 0) (o := 0) (n := 1) R1a hr hn (by omega) (by omega) (by omega) (len29 _ _ _) (len29 _ _ _) rfl rfl).use ?_
  rintro v4 h4 ⟨R4, K4⟩
  rw [adjA] at R4
  have K14 := (K13.trans N4).trans K4
  obtain ⟨cs, ms⟩ := ms5 (h := h4)
  simp only [wk, wt, wl, ↓reduceIte, Nat.reduceEqDiff, Nat.reduceAdd, Nat.zero_add, not_false_eq_true, not_true_eq_false, ms, build_c01 (x := 3) (v := .slice (some ⟨h4.size, 0, none⟩) 5 6) rfl]
  have N5 := Keeps.new (Ch.wf K14) 78 cs
  have R1b : FR (h4.new 78 cs) l1 [⟨2, 4, true⟩] := RS.keeps R1a (K4.trans N5)
  refine (adjust_ok (c := 3) (o := 5) (n := 0) R1b hr hn (by omega) (by omega) (by omega) (len29 _ _ _) (len29 _ _ _) rfl rfl).use ?_
  rintro v5 h5 ⟨R5, K5⟩
  rw [adjB] at R5
  have K15 := (K14.trans N5).trans K5
  have R1c : FR h5 l1 [⟨2, 4, true⟩] := RS.keeps R1b K5
  have R3c : FR h5 rv _ := RS.keeps R3 ((N4.trans K4).trans (N5.trans K5))
  have R4c : FR h5 v4 [⟨3, 5, true⟩] := RS.keeps R4 (N5.trans K5)
  have L1 : abuiltin prog .len #[22] #[l1] = some (.int .i64 1) := R1c.len underlying22
  have L3 : abuiltin prog .len #[22] #[rv] = some (.int .i64 4) := R3c.len underlying22
  have L4 : abuiltin prog .len #[22] #[v4] = some (.int .i64 1) := R4c.len underlying22
  have L5 : abuiltin prog .len #[22] #[v5] = some (.int .i64 0) := R5.len underlying22
  have A1 := fun {hh : Heap} (R : FR hh l1 [⟨2, 4, true⟩]) => (FR.flds R (i := 0) rfl).2.2.2
  have A3 := fun {hh : Heap} (R : FR hh rv [⟨0, 0, false⟩, ⟨1, 1, false⟩, ⟨2, 4, true⟩, ⟨5, 5, false⟩]) => (FR.flds R (i := 2) rfl).2.2.2
  have A4 := fun {hh : Heap} (R : FR hh v4 [⟨3, 5, true⟩]) => And.intro (FR.flds R (i := 0) rfl).1 (FR.flds R (i := 0) rfl).2.1
  have X1 := fun {hh : Heap} (R : FR hh l1 [⟨2, 4, true⟩]) => Rd.index R underlying22 asz36 (q := .i64) (i := 0) (by omega) (by simp)
  have X3 := fun {hh : Heap} (R : FR hh rv [⟨0, 0, false⟩, ⟨1, 1, false⟩, ⟨2, 4, true⟩, ⟨5, 5, false⟩]) => Rd.index R underlying22 asz36 (q := .i64) (i := 2) (by omega) (by simp)
  have X4 := fun {hh : Heap} (R : FR hh v4 [⟨3, 5, true⟩]) => Rd.index R underlying22 asz36 (q := .i64) (i := 0) (by omega) (by simp)
  simp only [Int.toNat_zero, Int.reduceToNat] at X1 X3 X4
  have s1 : (shownZ [⟨2, 4, true⟩] 3).1 = 2 := by decide
  have s2 : (shownZ [⟨2, 4, true⟩] 3).2 + 1 = 5 := by decide
  have s3 : prevZ [⟨2, 4, true⟩] 5 = 2 := by decide
  simp only [wk, wt, wl, ↓reduceIte, Nat.reduceEqDiff, Nat.reduceAdd, Nat.zero_add, not_false_eq_true, not_true_eq_false]
  refine adraw_order [(0, false), (1, false), (2, false), (3, false), (4, false), (5, false), (6, false), (7, false), (8, false), (9, false), (10, false), (11, false), (12, false), (13, false), (14, false), (15, false), (16, true), (17, false), (18, false), (19, false), (20, false), (21, true), (22, false), (23, false), (24, false), (25, false), (26, true), (27, false), (28, false), (29, false), (30, false), (31, false), (32, false), (33, false), (34, false), (35, false), (36, false), (37, false), (38, false), (39, false), (40, false), (41, false), (42, false), (43, false), (44, false), (45, false), (46, false), (47, false), (48, false), (49, false), (50, false), (51, false), (52, false), (53, false), (54, false), (55, false), (56, false), (57, false), (58, false), (59, false), (60, false), (61, false), (62, false), (63, false), (64, false), (65, false), (66, false), (67, false), (68, false), (69, true), (70, false), (71, false)] mixed (by kernel_rfl) (by kernel_rfl) (by kernel_rfl) (by repeat (first | exact PF_retK | refine PF_thenK ?_ | refine PF_blockK ?_)) ?_
  simp only [List.append_eq, List.cons_append, List.nil_append]
  simp (disch := omega) only [wk, wt, wl, ↓reduceIte, Nat.reduceEqDiff, Nat.reduceAdd, Nat.zero_add, not_false_eq_true, not_true_eq_false, dK_t, L1, X1 R1c, A1 R1c, build_f3, eq_fold, decide_true]
  repeat (refine ⟨Reads.refl _, ?_⟩)
  refine (head_ok R1c (by simp)).use ?_
  rintro _ h6 ⟨rfl, K6⟩
  rw [s1]
  have K06 := K15.trans K6
  simp (disch := omega) only [wk, wt, wl, ↓reduceIte, Nat.reduceEqDiff, Nat.reduceAdd, Nat.zero_add, not_false_eq_true, not_true_eq_false, dK_t, decide_true]
  refine ⟨K6.reads (Ch.wf K15), ?_⟩
  have R1d : FR h6 l1 [⟨2, 4, true⟩] := RS.keeps R1c K6
  refine (next_ok R1d (by simp) hn (by omega)).use ?_
  rintro _ h7 ⟨rfl, K7⟩
  rw [s2]
  have K07 := K06.trans K7
  simp (disch := omega) only [wk, wt, wl, ↓reduceIte, Nat.reduceEqDiff, Nat.reduceAdd, Nat.zero_add, not_false_eq_true, not_true_eq_false, dK_t, decide_true]
  refine ⟨K7.reads (Ch.wf K06), ?_⟩
  have R1e : FR h7 l1 [⟨2, 4, true⟩] := RS.keeps R1d K7
  refine (prev_ok R1e (by simp) hn (by omega)).use ?_
  rintro _ h8 ⟨rfl, K8⟩
  rw [s3]
  have K08 := K07.trans K8
  have K58 := (K6.trans K7).trans K8
  have R1f : FR h8 l1 [⟨2, 4, true⟩] := RS.keeps R1e K8
  have R3f : FR h8 rv _ := RS.keeps R3c K58
  have R4f : FR h8 v4 [⟨3, 5, true⟩] := RS.keeps R4c K58
  simp (disch := omega) only [wk, wt, wl, ↓reduceIte, Nat.reduceEqDiff, Nat.reduceAdd, Nat.zero_add, not_false_eq_true, not_true_eq_false, dK_t, decide_true, L3, L4, L5, X1 R1f, A1 R1f, X3 R3f, A3 R3f, X4 R4f, (A4 R4f).1, (A4 R4f).2, eq_fold]
  refine ⟨K8.reads (Ch.wf K07), ?_⟩
  repeat (refine ⟨Reads.refl _, ?_⟩)
  refine (right_ok R1f (by simp)).use ?_
  rintro _ h9 ⟨rfl, K9⟩
  simp (disch := omega) only [wk, wt, wl, ↓reduceIte, Nat.reduceEqDiff, Nat.reduceAdd, Nat.zero_add, not_false_eq_true, not_true_eq_false, dK_t, hr]
  first
    | exact ⟨K9.reads (Ch.wf K08), K08.trans K9⟩
    | exact K08.trans K9
end Go.Proofs.Ytgfccaaalkkdlaa.Am
