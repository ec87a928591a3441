/- More statements of the second chapter, told of abstract memory: CellUnits and CellPlaces answer true. -/
import Derived.Test.YtcnjmmffipjadaaDoorFn
set_option linter.unusedSimpArgs false
set_option linter.unusedVariables false
set_option maxHeartbeats 4000000
set_option maxRecDepth 20000
namespace Go.Proofs.YtcnjmmffipjadaaDoor.Am
open Go Go.RowKit Go.Proofs.Tryd
theorem box_eq {P : Program} {h : Heap} {tm : Tm} {e : TypeId} {x : Operand} {cs : List Value} (hx : (ev tm x).cells.toList = cs) (hs : ∃ m, asz P e = some m) (h1 : (ev tm x).cells.all one = true) : aeff P tm h (.box e x) = some (.pointer (some ⟨h.size, 0, none⟩), h.new e cs) := by
  obtain ⟨m, hs⟩ := hs
  simp [aeff, hs, h1, hx]
theorem list2 {α : Type} : ∀ {l : List α}, l.length = 2 → ∃ a b, l = [a, b]
  | [a, b], _ => ⟨a, b, rfl⟩
theorem unit_text {line : List Int} {tab : Int} (hlen : line.length ≤ 10000) {u : U} (hu : u ∈ unitsL line tab) : u.tx.length ≤ 100000 := by
  have := (unitsL_ok (line := line) (tab := tab)).each u hu
  omega
theorem cellUnits_law {a : Value} {line : List Int} {tab : Int} {h : Heap} (ha : RdI prog h .i32 a line) (G : Gl h) (hline : ∀ j, isR (line.getD j 0)) :
    ACalls prog 7 #[a, .int .i64 tab] h (fun v h' => v = .bool true ∧ Keeps h h') := by
  refine acalls_of_W' func7 rfl (by kernel_rfl) (by kernel_rfl) (by simp [ntmps7]) ?_
  intro H
  simp only [wk, wt, wl, ↓reduceIte, Nat.reduceEqDiff, Nat.reduceAdd, Nat.zero_add, not_false_eq_true, not_true_eq_false, RdI.len ha underlying24]
  refine gateO_decF (fun hc => ?_) (fun hc => ?_)
  · have hlen : line.length ≤ 10000 := by omega
    have hul := (unitsL_ok (line := line) (tab := tab)).len
    simp only [wk, wt, wl, ↓reduceIte, Nat.reduceEqDiff, Nat.reduceAdd, Nat.zero_add, not_false_eq_true, not_true_eq_false, hc]
    refine (units_ok ha G hline hlen).use ?_
    rintro l1 h1 ⟨uv, hu, R1, K1⟩
    simp only [wk, wt, wl, ↓reduceIte, Nat.reduceEqDiff, Nat.reduceAdd, Nat.zero_add, not_false_eq_true, not_true_eq_false, hc]
    refine (refUnits_ok (ha.keeps K1) hline hlen).use ?_
    rintro l2 h2 ⟨uw, hw, R2, K2⟩
    have hlen' : uv.length = (unitsL line tab).length := by rw [← hu]; simp
    simp only [wk, wt, wl, ↓reduceIte, Nat.reduceEqDiff, Nat.reduceAdd, Nat.zero_add, not_false_eq_true, not_true_eq_false, hc]
    refine (same_ok (R1.keeps K2) R2 (hu.trans hw.symm) (by omega) (fun x hx => unit_text hlen (by rw [← hu]; exact List.mem_map_of_mem hx))).use_pure ?_
    have K12 := K1.trans K2
    simp only [wk, wt, wl, ↓reduceIte, Nat.reduceEqDiff, Nat.reduceAdd, Nat.zero_add, not_false_eq_true, not_true_eq_false, hc]
    refine (columns_ok (ha.keeps K12) (G.keeps K12) hline hlen).use ?_
    rintro _ h3 ⟨rfl, K3⟩
    have K13 := K12.trans K3
    rw [colOf_all]
    simp only [wk, wt, wl, ↓reduceIte, Nat.reduceEqDiff, Nat.reduceAdd, Nat.zero_add, not_false_eq_true, not_true_eq_false, hc]
    refine (refColumns_ok (ha.keeps K13) hline hlen).use ?_
    rintro _ h4 ⟨rfl, K4⟩
    have K14 := K13.trans K4
    simp only [wk, wt, wl, ↓reduceIte, Nat.reduceEqDiff, Nat.reduceAdd, Nat.zero_add, not_false_eq_true, not_true_eq_false, hc]
    refine (awake_ok (G.keeps K14)).use ?_
    rintro _ h5 ⟨rfl, K5⟩
    simp only [wk, wt, wl, ↓reduceIte, Nat.reduceEqDiff, Nat.reduceAdd, Nat.zero_add, not_false_eq_true, not_true_eq_false, hc]
    exact K14.trans K5
  · simp only [wk, wt, wl, ↓reduceIte, Nat.reduceEqDiff, Nat.reduceAdd, Nat.zero_add, not_false_eq_true, not_true_eq_false, hc]
    exact Keeps.refl H
theorem cellPlaces_law {a : Value} {line : List Int} {tab i c : Int} {h : Heap} (ha : RdI prog h .i32 a line) (G : Gl h) (hline : ∀ j, isR (line.getD j 0)) :
    ACalls prog 4 #[a, .int .i64 tab, .agg #[.int .i64 i, .int .i64 c]] h (fun v h' => v = .bool true ∧ Keeps h h') := by
  refine acalls_of_W' func4 rfl (by kernel_rfl) (by kernel_rfl) (by simp [ntmps4]) ?_
  intro H
  have K0 := Keeps.new H 28 [.int .i64 i, .int .i64 c]
  have V0 := Var.new (e := 28) H (cs := [.int .i64 i, .int .i64 c])
  have hb : ∀ tm : Tm, tm 2 = .agg #[.int .i64 i, .int .i64 c] → aeff prog tm h (.box 28 (.tmp 2)) = some (.pointer (some ⟨h.size, 0, none⟩), h.new 28 [.int .i64 i, .int .i64 c]) := fun tm ht => box_eq (by simp [ev, ht, Value.cells]) ⟨_, asz28⟩ (by simp only [ev, ht, Value.cells]; simp [one])
  simp only [wk, wt, wl, ↓reduceIte, Nat.reduceEqDiff, Nat.reduceAdd, Nat.zero_add, not_false_eq_true, not_true_eq_false, hb (atm #[a, .int .i64 tab, .agg #[.int .i64 i, .int .i64 c]]) rfl, RdI.len ha underlying24]
  refine condK_dec (fun hc => ?_) (fun hc => ?_)
  · simp only [wk, wt, wl, ↓reduceIte, Nat.reduceEqDiff, Nat.reduceAdd, Nat.zero_add, not_false_eq_true, not_true_eq_false]
    exact K0
  · have hlen : line.length ≤ 10000 := by omega
    have W0 := V0.load1 (P := prog) (t := 3) underlying3 rfl (i := 0)
    have W1 := fun {h' : Heap} (V : Var h' h.size [.int .i64 i, .int .i64 c]) => V.load1 (P := prog) (t := 3) underlying3 rfl (i := 0)
    have W2 := fun {h' : Heap} (V : Var h' h.size [.int .i64 i, .int .i64 c]) => V.load1 (P := prog) (t := 3) underlying3 rfl (i := 1)
    simp only [List.getElem?_cons_succ, List.getElem?_cons_zero] at W0 W1 W2
    simp (disch := omega) only [wk, wt, wl, ↓reduceIte, Nat.reduceEqDiff, Nat.reduceAdd, Nat.zero_add, not_false_eq_true, not_true_eq_false, ai28, Int.reduceToNat, W0]
    refine (col_ok (ha.keeps K0) (G.keeps K0) hline hlen).use ?_
    rintro _ h1 ⟨rfl, K1⟩
    have K01 := K0.trans K1
    have V1 := Keeps.var (Ch.wf K0) K1 V0
    simp (disch := omega) only [wk, wt, wl, ↓reduceIte, Nat.reduceEqDiff, Nat.reduceAdd, Nat.zero_add, not_false_eq_true, not_true_eq_false, ai28, Int.reduceToNat, W1 V1]
    refine (refCol_ok (ha.keeps K01) hline hlen).use ?_
    rintro _ h2 ⟨rfl, K2⟩
    have K02 := K01.trans K2
    have V2 := Keeps.var (Ch.wf K01) K2 V1
    simp (disch := omega) only [wk, wt, wl, ↓reduceIte, Nat.reduceEqDiff, Nat.reduceAdd, Nat.zero_add, not_false_eq_true, not_true_eq_false]
    refine adraw_order [(0, false), (1, false), (2, false), (3, false), (4, false), (5, false), (6, false), (7, false), (8, false), (9, false), (10, false), (11, false), (12, false), (14, false), (15, false), (16, false), (17, false), (13, true), (18, true), (19, false), (20, false), (21, false), (22, true), (23, false), (24, false)] mixed (by kernel_rfl) (by kernel_rfl) (by kernel_rfl) (by repeat (first | exact PF_retK | refine PF_thenK ?_ | refine PF_blockK ?_)) ?_
    simp (disch := omega) only [wk, wt, wl, ↓reduceIte, Nat.reduceEqDiff, Nat.reduceAdd, Nat.zero_add, not_false_eq_true, not_true_eq_false, ai28, Int.reduceToNat, W2 V2]
    refine (at_ok (ha.keeps K02) (G.keeps K02) hline hlen).use ?_
    rintro _ h3 ⟨rfl, K3⟩
    have K03 := K02.trans K3
    simp (disch := omega) only [wk, wt, wl, ↓reduceIte, Nat.reduceEqDiff, Nat.reduceAdd, Nat.zero_add, not_false_eq_true, not_true_eq_false, dK_t]
    refine ⟨K3.reads (Ch.wf K02), ?_⟩
    refine (refAt_ok (ha.keeps K03) hline hlen).use ?_
    rintro _ h4 ⟨rfl, K4⟩
    have K04 := K03.trans K4
    simp (disch := omega) only [wk, wt, wl, ↓reduceIte, Nat.reduceEqDiff, Nat.reduceAdd, Nat.zero_add, not_false_eq_true, not_true_eq_false, dK_t]
    refine ⟨K4.reads (Ch.wf K03), ?_⟩
    refine (awake_ok (G.keeps K04)).use ?_
    rintro _ h5 ⟨rfl, K5⟩
    simp (disch := omega) only [wk, wt, wl, ↓reduceIte, Nat.reduceEqDiff, Nat.reduceAdd, Nat.zero_add, not_false_eq_true, not_true_eq_false, dK_t]
    first
      | exact ⟨K5.reads (Ch.wf K04), K04.trans K5⟩
      | exact K04.trans K5
end Go.Proofs.YtcnjmmffipjadaaDoor.Am
