/- The examples of the second chapter: the contract of awake, by a walk. -/
import Derived.Test.YtcnjmmffipjadaaDoorFj
set_option linter.unusedSimpArgs false
set_option linter.unusedVariables false
set_option maxHeartbeats 4000000
set_option maxRecDepth 20000
namespace Go.Proofs.YtcnjmmffipjadaaDoor.Am
open Go Go.RowKit Go.Proofs.Tryd
theorem isR_getD {xs : List Int} (h : ∀ x, x ∈ xs → isR x) (j : Nat) : isR (xs.getD j 0) := by
  rw [List.getD_eq_getElem?_getD]
  cases e : xs[j]? with
  | none => simp [isR]
  | some x => exact h x (List.mem_of_getElem? e)
theorem unitsA : unitsL [97, 9, 98] 8 = [⟨0, 1, 0, 1, [97]⟩, ⟨1, 2, 1, 7, [32, 32, 32, 32, 32, 32, 32]⟩, ⟨2, 3, 8, 1, [98]⟩] := by kernel_rfl
theorem unitsB : unitsL [101, 769] 8 = [⟨0, 2, 0, 1, [101, 769]⟩] := by kernel_rfl
theorem colA : colOf (unitsL [97, 9] 8) 2 0 = (8, 1) := by kernel_rfl
theorem atA : atOf (unitsL [97, 9, 98] 8) 3 3 = 1 := by kernel_rfl
theorem widthA : widthZ 20013 = 2 := by kernel_rfl
theorem showA : showL 1 = [94, 65] := by kernel_rfl
theorem list1 {α : Type} : ∀ {l : List α}, l.length = 1 → ∃ a, l = [a]
  | [a], _ => ⟨a, rfl⟩
theorem list3 {α : Type} : ∀ {l : List α}, l.length = 3 → ∃ a b c, l = [a, b, c]
  | [a, b, c], _ => ⟨a, b, c, rfl⟩
theorem rdNew {h : Heap} (H : Wf h) {c : Nat} (xs : List Int) : RdI prog (h.new 21 (vI xs)) .i32 (.slice (some ⟨h.size, 0, none⟩) xs.length c) xs := Rd.new H asz21 (by simp [vI])
theorem awake_ok {h : Heap} (G : Gl h) : ACalls prog 15 #[] h (fun v h' => v = .bool true ∧ Keeps h h') := by
  refine acalls_of_W' func15 rfl (by kernel_rfl) (by kernel_rfl) (by simp [ntmps15]) ?_
  intro H
  simp only [wk, wt, wl, ↓reduceIte, Nat.reduceEqDiff, Nat.reduceAdd, Nat.zero_add, not_false_eq_true, not_true_eq_false]
  have K1 := Keeps.new H 21 (vI [97, 9, 98])
  refine (units_ok (rdNew H [97, 9, 98]) (G.keeps K1) (isR_getD (by simp [isR])) (by simp)).use ?_
  rintro l1 h2 ⟨uv, hu, R1, K2⟩
  rw [unitsA] at hu
  obtain ⟨⟨_, v0⟩, ⟨_, v1⟩, ⟨_, v2⟩, rfl⟩ : ∃ a b c, uv = [a, b, c] := list3 (by have := congrArg List.length hu; simpa using this)
  simp only [List.map_cons, List.map_nil, List.cons.injEq, and_true] at hu
  obtain ⟨rfl, rfl, rfl⟩ := hu
  have K12 := K1.trans K2
  simp only [wk, wt, wl, ↓reduceIte, Nat.reduceEqDiff, Nat.reduceAdd, Nat.zero_add, not_false_eq_true, not_true_eq_false]
  have K3 := Keeps.new (Ch.wf K12) 21 (vI [101, 769])
  refine (units_ok (rdNew (Ch.wf K12) [101, 769]) (G.keeps (K12.trans K3)) (isR_getD (by simp [isR])) (by simp)).use ?_
  rintro l2 h4 ⟨uw, hw, R2, K4⟩
  rw [unitsB] at hw
  obtain ⟨⟨_, w0⟩, rfl⟩ : ∃ a, uw = [a] := list1 (by have := congrArg List.length hw; simpa using this)
  simp only [List.map_cons, List.map_nil, List.cons.injEq, and_true] at hw
  subst hw
  have K14 := (K12.trans K3).trans K4
  have R1' := R1.keeps (K3.trans K4)
  simp only [wk, wt, wl, ↓reduceIte, Nat.reduceEqDiff, Nat.reduceAdd, Nat.zero_add, not_false_eq_true, not_true_eq_false]
  have K5 := Keeps.new (Ch.wf K14) 21 (vI [97, 9])
  refine (col_ok (rdNew (Ch.wf K14) [97, 9]) (G.keeps (K14.trans K5)) (isR_getD (by simp [isR])) (by simp)).use ?_
  rintro _ h6 ⟨rfl, K6⟩
  rw [colA]
  have K16 := (K14.trans K5).trans K6
  have R1'' := R1'.keeps (K5.trans K6)
  have R2'' := R2.keeps (K5.trans K6)
  obtain ⟨_, _, A2, _, _⟩ := R1''.field (i := 2) rfl
  obtain ⟨_, _, _, _, A1⟩ := R1''.field (i := 1) rfl
  obtain ⟨_, _, _, B0, _⟩ := R2''.field (i := 0) rfl
  have T1 := RdI.len (R1''.txt (⟨1, 2, 1, 7, [32, 32, 32, 32, 32, 32, 32]⟩, v1) (by simp)) underlying24
  have L1 : abuiltin prog .len #[33] #[l1] = some (.int .i64 3) := Rd.len R1''.rd underlying33
  have L2 : abuiltin prog .len #[33] #[l2] = some (.int .i64 1) := Rd.len R2''.rd underlying33
  have T1' : abuiltin prog .len #[24] #[v1] = some (.int .i64 7) := T1
  simp only at A2 A1 B0
  simp (disch := omega) only [wk, wt, wl, ↓reduceIte, Nat.reduceEqDiff, Nat.reduceAdd, Nat.zero_add, not_false_eq_true, not_true_eq_false, L1, L2, T1', Rd.index R1''.rd underlying33 asz36 (q := .i64) (i := 2) (by omega) (by simp), Rd.index R1''.rd underlying33 asz36 (q := .i64) (i := 1) (by omega) (by simp), Rd.index R2''.rd underlying33 asz36 (q := .i64) (i := 0) (by omega) (by simp), A2, A1, B0, Int.reduceToNat]
  refine (width_ok (r := 20013) (by simp [isR]) (G.keeps K16)).use_pure ?_
  rw [widthA]
  simp only [wk, wt, wl, ↓reduceIte, Nat.reduceEqDiff, Nat.reduceAdd, Nat.zero_add, not_false_eq_true, not_true_eq_false]
  refine (show_ok (r := 1) (by simp [isR])).use_pure ?_
  rw [showA]
  simp only [wk, wt, wl, ↓reduceIte, Nat.reduceEqDiff, Nat.reduceAdd, Nat.zero_add, not_false_eq_true, not_true_eq_false]
  have K7 := Keeps.new (Ch.wf K16) 21 (vI [94, 65])
  have K8 := Keeps.new (Ch.wf K7) 21 (vI [94, 65])
  refine (runes_ok (xs := [94, 65]) (ys := [94, 65]) ((rdNew (Ch.wf K16) [94, 65]).keeps K8) (rdNew (Ch.wf K7) [94, 65]) (by simp)).use_pure ?_
  simp only [wk, wt, wl, ↓reduceIte, Nat.reduceEqDiff, Nat.reduceAdd, Nat.zero_add, not_false_eq_true, not_true_eq_false]
  have K18 := (K16.trans K7).trans K8
  have K9 := Keeps.new (Ch.wf K18) 21 (vI [97, 9, 98])
  refine (at_ok (rdNew (Ch.wf K18) [97, 9, 98]) (G.keeps (K18.trans K9)) (isR_getD (by simp [isR])) (by simp)).use ?_
  rintro _ h10 ⟨rfl, K10⟩
  rw [show ((([97, 9, 98] : List Int).length : Nat) : Int) = 3 from rfl, atA]
  simp only [wk, wt, wl, ↓reduceIte, Nat.reduceEqDiff, Nat.reduceAdd, Nat.zero_add, not_false_eq_true, not_true_eq_false]
  exact (K18.trans K9).trans K10
end Go.Proofs.YtcnjmmffipjadaaDoor.Am
