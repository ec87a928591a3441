/- FoldMakes: what any folds are with one made, dropped, closed or opened, or what is wrong, is the document's; the examples hold; nothing that was handed in is changed. Conditions: the row's own (what is handed in is of bulk at most 1048576). -/
import Derived.Test.YtgfccaaalkkdlaaZ5
import Derived.Test.YtgfccaaalkkdlaaZ10
set_option linter.unusedSimpArgs false
set_option linter.unusedVariables false
namespace Go.Proofs.Ytgfccaaalkkdlaa.foldMakes
open Go Go.ChangeShapes Go.WideShapes Go.ChangeAt Go.RowKit Go.Proofs.Ytgfccaaalkkdlaa.Am
theorem own : ownKnob Try.prog.godebug = none := by kernel_rfl
theorem contract (H : Type) (enc : TypeId × Value → H) (W : World) (base : Nat) (args : Array Value) (ds gs : List (DataW H)) (before : List MemPlace)
    (hval : ∀ (j : Nat) t v, Try.f6.params[j]? = some t → args[j]? = some v → Value.okWide Try.prog W .any base t v)
    (hW : DataW.Whole enc Try.prog Try.f6.params.toList Rows.foldMakesSpec.vars false W args.toList ds gs before) (hsh : W.ShapedOpen Try.prog) (hk : Rows.uptoSmall H (ds ++ gs) = true) :
    Calls Try.prog 6 args W fun e W' => ∃ v, e = .returned v ∧ Rows.foldMakesSpec.post enc Try.prog Try.f6 false true false false W args v W' := by
  have hW' := hW
  have hW0 := heap_pos hsh
  obtain ⟨p, q, hA0, hV, rfl, hfz, hnd⟩ := hW
  have hA : DataW.TrodAll enc Try.prog W 0 (fun _ => true) true Try.f6.params.toList args.toList ds p := hA0
  rw [Try.params6] at hA hval
  obtain ⟨v0, vs0, d0, ds0, p0, q0, hargs, rfl, rfl, h0, r0⟩ := trodAll_cons hA
  obtain ⟨v1, vs1, d1, ds1, p1, q1, rfl, rfl, rfl, h1, r1⟩ := trodAll_cons r0
  obtain ⟨v2, vs2, d2, ds2, p2, q2, rfl, rfl, rfl, h2, r2⟩ := trodAll_cons r1
  obtain ⟨rfl, rfl, rfl⟩ := trodAll_nil r2
  obtain rfl : args = #[v0, v1, v2] := by cases args; simp_all
  obtain ⟨rfl, rfl⟩ := trodVars_none hV
  clear hA0
  have h0' := h0
  obtain ⟨fuel0, hf0⟩ := h0
  obtain ⟨tr0, I0, D0⟩ := imp_of hW0 12 (show shOk Try.prog 12 22 = true by kernel_rfl) hf0
  have hc0 : v0.cells.toList = [v0] := by
    obtain ⟨_, _, _, rfl⟩ := okWide_slice Try.underlying22 (hval 0 22 v0 rfl rfl)
    rfl
  obtain ⟨bl0, cs0, hl0, hh0⟩ := I0 (0)
  have h1' := h1
  obtain ⟨fuel1, hf1⟩ := h1
  obtain ⟨tr1, I1, D1⟩ := imp_of hW0 12 (show shOk Try.prog 12 37 = true by kernel_rfl) hf1
  obtain ⟨vc1, rfl⟩ : ∃ vc, v1 = .agg vc := by
    obtain ⟨cs, e, _⟩ := hval 1 37 v1 rfl rfl
    exact ⟨cs, e⟩
  obtain ⟨bl1, cs1, hl1, hh1⟩ := I1 (bl0.length)
  have h2' := h2
  obtain ⟨z2, rfl, rfl, rfl⟩ := open_bool Try.underlying4 (hval 2 4 v2 rfl rfl) h2
  obtain ⟨lies0, vr0, lay0⟩ := hh0 [] (bl1) rfl
  simp only [List.nil_append, List.append_nil, ← List.append_assoc] at lies0 vr0 lay0
  obtain ⟨w0, l0, rfl, rfl, R0, hm0⟩ := lay_folds lay0
  have D0' := D0
  have hv0 : VR (startRen (bl0 ++ bl1)) w0 v0 := (vr0 0 w0 v0 rfl (by rw [hc0]; rfl)).2
  obtain ⟨lies1, vr1, lay1⟩ := hh1 (bl0) [] rfl
  simp only [List.nil_append, List.append_nil, ← List.append_assoc] at lies1 vr1 lay1
  have D1' := D1
  have hv1 : VR (startRen (bl0 ++ bl1)) (.agg cs1.toArray) (.agg vc1) := VR.agg ⟨by simpa [Value.cells] using hl1, fun i a b ha hb => (vr1 i a b (by simpa using ha) (by simpa [Value.cells] using hb)).2⟩
  obtain ⟨a1, b1, rfl⟩ := lay_two lay1
  have walk : Calls Try.prog 6 #[v0, .agg vc1, .bool z2] W fun e w' => e = .returned (.bool true) ∧ Below W.heap.size W w' := by
    refine law_calls0 (xs := bl0 ++ bl1) (fun x hx => ?_) (AR.push (AR.push (AR.push (AR.nil) hv0) hv1) (VR.bool _)) (foldMakes_law R0 (by have := small_list hk (by simp) D0'; simp at this; omega))
    exact (List.mem_append.1 hx).elim (lies0 x) (lies1 x)
  refine walk.mono fun e W' ⟨he, hb⟩ => ?_
  subst he
  exact ⟨_, rfl, post_of_below hW' (fun _ _ _ => trodAll_cons_mk (shut_bool Try.underlying4 _) trodAll_mk0)
    (fun sp hsp => (trodAll_cons_mk (WideElems.Trod_stays (by kernel_rfl) (by kernel_rfl) (of_decide_eq_true (by kernel_rfl)) h0' (fun x hx => hb.same (hW'.lt x (by simp [hx]))) (fun x hx => hsp x (by simp [hx]))) (trodAll_cons_mk (WideElems.Trod_stays (by kernel_rfl) (by kernel_rfl) (of_decide_eq_true (by kernel_rfl)) h1' (fun x hx => hb.same (hW'.lt x (by simp [hx]))) (fun x hx => hsp x (by simp [hx]))) (trodAll_cons_mk (WideElems.Trod_stays (by kernel_rfl) (by kernel_rfl) (of_decide_eq_true (by kernel_rfl)) h2' (fun x hx => (List.not_mem_nil hx).elim) (fun x hx => (List.not_mem_nil hx).elim)) trodAll_mk0)))) (fun _ _ => rfl) rfl (hb.frame _)⟩
set_option maxRecDepth 100000 in
theorem lifted (os : Os) (started : os.Started) (H : Type) (enc : TypeId × Value → H) (F : Stop.Interp) :
    ReturnsInHanded {} Try.checked os 6 .any ((Rows.OpenSpec.upto Rows.foldMakesSpec).preRow enc Try.prog Try.f6 Rows.foldMakesUptoRow.domain false Rows.foldMakesUptoRow.laid) (((Rows.OpenSpec.upto Rows.foldMakesSpec).at F).post enc Try.prog Try.f6 false true false false) := by
  obtain ⟨places, hx⟩ : ∃ places, DataW.whole enc Try.prog ((World.plainHolding Try.prog os ⟨#[], #[.slice none 0 0, .agg #[.int .i64 0, .int .i64 0], .bool false], []⟩).forCall (fun _ _ => 0) ⟨#[], #[.slice none 0 0, .agg #[.int .i64 0, .int .i64 0], .bool false], []⟩).memory Try.f6.params.toList Rows.foldMakesSpec.vars false (#[.slice none 0 0, .agg #[.int .i64 0, .int .i64 0], .bool false] : Array Value).toList 8 = some ([.nil, .agg [.lit (.int .i64 0), .lit (.int .i64 0)], .lit (.bool false)], [], places) := ⟨[], by kernel_rfl⟩
  refine returnsInHanded_of_row (C := Try.checked) (s := Rows.OpenSpec.upto Rows.foldMakesSpec) own started (by kernel_rfl) Try.func6
    (witness_row_atRef (enc := enc) (C := Try.checked) false (World.plainHolding Try.prog os ⟨#[], #[.slice none 0 0, .agg #[.int .i64 0, .int .i64 0], .bool false], []⟩) #[.slice none 0 0, .agg #[.int .i64 0, .int .i64 0], .bool false] rfl (by kernel_rfl) (by kernel_rfl) (by kernel_rfl)
      (OpenSpec.preRow_of_cond 8 hx (by kernel_rfl) (fun k hk => by cases hk; kernel_rfl) (by kernel_rfl) (laidMet_of_run' 8 (by kernel_rfl) (by kernel_rfl)))) ?_
  intro W base args ds gs before hval hW _ hcond _ _ hsh _
  exact contract H enc W base args ds gs before hval hW hsh (hcond _ rfl)
theorem said : Rows.FoldMakesUptoSaid :=
  OpenClaim.holds_of_cond 6 Try.f6 rfl rfl rfl rfl rfl rfl rfl ⟨rfl, rfl, rfl, rfl, rfl⟩ rfl rfl rfl rfl rfl (by kernel_rfl) Try.func6 (by kernel_rfl)
    (of_decide_eq_true (by kernel_rfl)) (by unfold Func.isWrapper; first | (rw [if_pos (by decide +kernel)]; kernel_rfl) | (rw [if_neg (by decide +kernel)]; exact ⟨rfl, rfl⟩))
    (fun os started H enc _ F => by rw [OpenClaim.pre_eq_preRow]; exact lifted os started H enc F)
end Go.Proofs.Ytgfccaaalkkdlaa.foldMakes
namespace Go.Proofs.Ytgfccaaalkkdlaa
theorem foldMakes_holds : Rows.FoldMakesUptoSaid := foldMakes.said
#print axioms foldMakes_holds
end Go.Proofs.Ytgfccaaalkkdlaa
