/- More statements of the second chapter, told of abstract memory: CellUnits and CellPlaces answer true. -/
import Derived.Test.YtcnjmmffipjadaaDoorFn
set_option linter.unusedSimpArgs false
set_option linter.unusedVariables false
set_option maxHeartbeats 4000000
set_option maxRecDepth 20000
namespace Go.Proofs.YtcnjmmffipjadaaDoor.Am
open Go Go.RowKit Go.Proofs.Tryd
theorem unit_text {line : List Int} {tab : Int} (hlen : line.length ≤ 10000) {u : U} (hu : u ∈ unitsL line tab) : u.tx.length ≤ 100000 := by
  have := (unitsL_ok (line := line) (tab := tab)).each u hu
  omega
theorem cellUnits_law {a : Value} {line : List Int} {tab : Int} {h : Heap} (ha : RdI prog h .i32 a line) (G : Gl h) (hline : ∀ j, isR (line.getD j 0)) :
    ACalls prog 7 #[a, .int .i64 tab] h (fun v h' => v = .bool true ∧ Keeps h h') := by
  refine acalls_of_W' func7 rfl (by kernel_rfl) (by kernel_rfl) (by simp [ntmps7]) ?_
  intro H
  simp only [wk, wt, wl, ↓reduceIte, Nat.reduceEqDiff, Nat.reduceAdd, Nat.zero_add, not_false_eq_true, not_true_eq_false, RdI.len ha underlying24]
  refine gateO_decF (fun hc => ?_) (fun hc => ?_)
  · have hlen : line.length ≤ 10000 := by omega
    have hul := (unitsL_ok (line := line) (tab := tab)).len
    simp only [wk, wt, wl, ↓reduceIte, Nat.reduceEqDiff, Nat.reduceAdd, Nat.zero_add, not_false_eq_true, not_true_eq_false, hc]
    refine (units_ok ha G hline hlen).use ?_
    rintro l1 h1 ⟨uv, hu, R1, K1⟩
    simp only [wk, wt, wl, ↓reduceIte, Nat.reduceEqDiff, Nat.reduceAdd, Nat.zero_add, not_false_eq_true, not_true_eq_false, hc]
    refine (refUnits_ok (ha.keeps K1) hline hlen).use ?_
    rintro l2 h2 ⟨uw, hw, R2, K2⟩
    have hlen' : uv.length = (unitsL line tab).length := by rw [← hu]; simp
    simp only [wk, wt, wl, ↓reduceIte, Nat.reduceEqDiff, Nat.reduceAdd, Nat.zero_add, not_false_eq_true, not_true_eq_false, hc]
    refine (same_ok (R1.keeps K2) R2 (hu.trans hw.symm) (by omega) (fun x hx => unit_text hlen (by rw [← hu]; exact List.mem_map_of_mem hx))).use_pure ?_
    have K12 := K1.trans K2
    simp only [wk, wt, wl, ↓reduceIte, Nat.reduceEqDiff, Nat.reduceAdd, Nat.zero_add, not_false_eq_true, not_true_eq_false, hc]
    refine (columns_ok (ha.keeps K12) (G.keeps K12) hline hlen).use ?_
    rintro _ h3 ⟨rfl, K3⟩
    have K13 := K12.trans K3
    rw [colOf_all]
    simp only [wk, wt, wl, ↓reduceIte, Nat.reduceEqDiff, Nat.reduceAdd, Nat.zero_add, not_false_eq_true, not_true_eq_false, hc]
    refine (refColumns_ok (ha.keeps K13) hline hlen).use ?_
    rintro _ h4 ⟨rfl, K4⟩
    have K14 := K13.trans K4
    simp only [wk, wt, wl, ↓reduceIte, Nat.reduceEqDiff, Nat.reduceAdd, Nat.zero_add, not_false_eq_true, not_true_eq_false, hc]
    refine (awake_ok (G.keeps K14)).use ?_
    rintro _ h5 ⟨rfl, K5⟩
    simp only [wk, wt, wl, ↓reduceIte, Nat.reduceEqDiff, Nat.reduceAdd, Nat.zero_add, not_false_eq_true, not_true_eq_false, hc]
    exact K14.trans K5
  · simp only [wk, wt, wl, ↓reduceIte, Nat.reduceEqDiff, Nat.reduceAdd, Nat.zero_add, not_false_eq_true, not_true_eq_false, hc]
    exact Keeps.refl H
end Go.Proofs.YtcnjmmffipjadaaDoor.Am
