/- MarksMoves: where any change leaves any place is the document's answer; the examples hold; nothing that was handed in is changed. Conditions: none beyond the row's own (what is handed in is of bulk at most 1048576). -/
import Derived.Test.YtepibodbcheobaaMh
import Derived.Test.YtepibodbcheobaaPe
set_option linter.unusedSimpArgs false
set_option linter.unusedVariables false
namespace Go.Proofs.Ytepibodbcheobaa.marksMoves
open Go Go.ChangeShapes Go.WideShapes Go.ChangeAt Go.RowKit Go.Proofs.Ytepibodbcheobaa.Am
theorem own : ownKnob Try.prog.godebug = none := by kernel_rfl
theorem contract (H : Type) (enc : TypeId × Value → H) (W : World) (base : Nat) (args : Array Value) (ds gs : List (DataW H)) (before : List MemPlace)
    (hval : ∀ (j : Nat) t v, Try.f3.params[j]? = some t → args[j]? = some v → Value.okWide Try.prog W .any base t v)
    (hW : DataW.Whole enc Try.prog Try.f3.params.toList Rows.marksMovesSpec.vars false W args.toList ds gs before) (hsh : W.ShapedOpen Try.prog) (hk : Rows.uptoSmall H (ds ++ gs) = true) :
    Calls Try.prog 3 args W fun e W' => ∃ v, e = .returned v ∧ Rows.marksMovesSpec.post enc Try.prog Try.f3 false true false false W args v W' := by
  have hW' := hW
  have hWg := heap_glob hsh
  have hW0 : 0 < W.heap.size := by omega
  obtain ⟨p, q, hA0, hV, rfl, hfz, hnd⟩ := hW
  have hA : DataW.TrodAll enc Try.prog W 0 (fun _ => true) true Try.f3.params.toList args.toList ds p := hA0
  rw [Try.params3] at hA hval
  obtain ⟨v0, vs0, d0, ds0, p0, q0, hargs, rfl, rfl, h0, r0⟩ := trodAll_cons hA
  obtain ⟨v1, vs1, d1, ds1, p1, q1, rfl, rfl, rfl, h1, r1⟩ := trodAll_cons r0
  obtain ⟨rfl, rfl, rfl⟩ := trodAll_nil r1
  obtain rfl : args = #[v0, v1] := by cases args; simp_all
  obtain ⟨rfl, rfl⟩ := trodVars_none hV
  clear hA0
  have h0' := h0
  obtain ⟨fuel0, hf0⟩ := h0
  obtain ⟨tr0, I0, D0⟩ := imp_of hW0 12 (show shOk Try.prog 12 23 = true by kernel_rfl) hf0
  obtain ⟨vc0, rfl⟩ : ∃ vc, v0 = .agg vc := by
    obtain ⟨cs, e, _⟩ := hval 0 23 v0 rfl rfl
    exact ⟨cs, e⟩
  obtain ⟨bl0, cs0, hl0, hh0⟩ := I0 ((base0).length)
  have h1' := h1
  obtain ⟨fuel1, hf1⟩ := h1
  obtain ⟨tr1, I1, D1⟩ := imp_of hW0 12 (show shOk Try.prog 12 26 = true by kernel_rfl) hf1
  obtain ⟨vc1, rfl⟩ : ∃ vc, v1 = .agg vc := by
    obtain ⟨cs, e, _⟩ := hval 1 26 v1 rfl rfl
    exact ⟨cs, e⟩
  obtain ⟨bl1, cs1, hl1, hh1⟩ := I1 ((base0 ++ bl0).length)
  obtain ⟨lies0, vr0, lay0⟩ := hh0 (base0) (bl1) rfl
  simp only [List.nil_append, List.append_nil, List.append_assoc] at lies0 vr0 lay0
  have D0' := D0
  have hv0 : VR (startRen ((base0 ++ (bl0 ++ bl1)))) (.agg cs0.toArray) (.agg vc0) := VR.agg ⟨by simpa [Value.cells] using hl0, fun i a b ha hb => (vr0 i a b (by simpa using ha) (by simpa [Value.cells] using hb)).2⟩
  obtain ⟨pl0, pc0, rfl, rfl, qa0, qb0⟩ := lay_pos lay0
  obtain ⟨lies1, vr1, lay1⟩ := hh1 (base0 ++ bl0) [] rfl
  simp only [List.nil_append, List.append_nil, List.append_assoc] at lies1 vr1 lay1
  have D1' := D1
  have hv1 : VR (startRen ((base0 ++ (bl0 ++ bl1)))) (.agg cs1.toArray) (.agg vc1) := VR.agg ⟨by simpa [Value.cells] using hl1, fun i a b ha hb => (vr1 i a b (by simpa using ha) (by simpa [Value.cells] using hb)).2⟩
  obtain ⟨c1, ov1, ea1, nv1, eb1, ls1, rfl, rfl, qc1, oo1, LO1, T1, le1⟩ := lay_chg lay1
  have walk : Calls Try.prog 3 #[.agg vc0, .agg vc1] W fun e w' => e = .returned (.bool true) ∧ Below W.heap.size W w' := by
    refine law_callsG (xs := (bl0 ++ bl1)) hWg (fun x hx => ?_) (AR.push (AR.push (AR.nil) hv0) hv1) (marksMoves_law T1 LO1 oo1 (by have := small_tree hk (by simp) D1'; simp only [tw, twL] at this; have := twL_len ea1; omega) (by rw [le1]; have := small_tree hk (by simp) D1'; simp only [tw, twL] at this; have := twL_len eb1; omega))
    exact (List.mem_append.1 hx).elim (lies0 x) (fun hx => lies1 x hx)
  refine walk.mono fun e W' ⟨he, hb⟩ => ?_
  subst he
  exact ⟨_, rfl, post_of_below hW' (fun _ _ _ => trodAll_cons_mk (shut_bool Try.underlying4 _) trodAll_mk0)
    (fun sp hsp => (trodAll_cons_mk (WideElems.Trod_stays (by kernel_rfl) (by kernel_rfl) (of_decide_eq_true (by kernel_rfl)) h0' (fun x hx => hb.same (hW'.lt x (by simp [hx]))) (fun x hx => hsp x (by simp [hx]))) (trodAll_cons_mk (WideElems.Trod_stays (by kernel_rfl) (by kernel_rfl) (of_decide_eq_true (by kernel_rfl)) h1' (fun x hx => hb.same (hW'.lt x (by simp [hx]))) (fun x hx => hsp x (by simp [hx]))) trodAll_mk0))) (fun _ _ => rfl) rfl (hb.frame _)⟩
set_option maxRecDepth 100000 in
theorem lifted (os : Os) (started : os.Started) (H : Type) (enc : TypeId × Value → H) (F : Stop.Interp) :
    ReturnsInHanded {} Try.checked os 3 .any ((Rows.OpenSpec.upto Rows.marksMovesSpec).preRow enc Try.prog Try.f3 Rows.marksMovesUptoRow.domain false Rows.marksMovesUptoRow.laid) (((Rows.OpenSpec.upto Rows.marksMovesSpec).at F).post enc Try.prog Try.f3 false true false false) := by
  obtain ⟨places, hx⟩ : ∃ places, DataW.whole enc Try.prog ((World.plainHolding Try.prog os ⟨#[], #[.agg #[.int .i64 0, .int .i64 0], .agg #[.int .i64 0, .slice none 0 0, .slice none 0 0]], []⟩).forCall (fun _ _ => 0) ⟨#[], #[.agg #[.int .i64 0, .int .i64 0], .agg #[.int .i64 0, .slice none 0 0, .slice none 0 0]], []⟩).memory Try.f3.params.toList Rows.marksMovesSpec.vars false (#[.agg #[.int .i64 0, .int .i64 0], .agg #[.int .i64 0, .slice none 0 0, .slice none 0 0]] : Array Value).toList 8 = some ([.agg [.lit (.int .i64 0), .lit (.int .i64 0)], .agg [.lit (.int .i64 0), .nil, .nil]], [], places) := ⟨[], by kernel_rfl⟩
  refine returnsInHanded_of_row (C := Try.checked) (s := Rows.OpenSpec.upto Rows.marksMovesSpec) own started (by kernel_rfl) Try.func3
    (witness_row_atRef (enc := enc) (C := Try.checked) false (World.plainHolding Try.prog os ⟨#[], #[.agg #[.int .i64 0, .int .i64 0], .agg #[.int .i64 0, .slice none 0 0, .slice none 0 0]], []⟩) #[.agg #[.int .i64 0, .int .i64 0], .agg #[.int .i64 0, .slice none 0 0, .slice none 0 0]] rfl (by kernel_rfl) (by kernel_rfl) (by kernel_rfl)
      (OpenSpec.preRow_of_cond 8 hx (by kernel_rfl) (fun k hk => by cases hk; kernel_rfl) (by kernel_rfl) (laidMet_of_run' 8 (by kernel_rfl) (by kernel_rfl)))) ?_
  intro W base args ds gs before hval hW _ hcond _ _ hsh _
  exact contract H enc W base args ds gs before hval hW hsh (hcond _ rfl)
theorem said : Rows.MarksMovesUptoSaid :=
  OpenClaim.holds_of_cond 3 Try.f3 rfl rfl rfl rfl rfl rfl rfl ⟨rfl, rfl, rfl, rfl, rfl⟩ rfl rfl rfl rfl rfl (by kernel_rfl) Try.func3 (by kernel_rfl)
    (of_decide_eq_true (by kernel_rfl)) (by unfold Func.isWrapper; first | (rw [if_pos (by decide +kernel)]; kernel_rfl) | (rw [if_neg (by decide +kernel)]; exact ⟨rfl, rfl⟩))
    (fun os started H enc _ F => by rw [OpenClaim.pre_eq_preRow]; exact lifted os started H enc F)
end Go.Proofs.Ytepibodbcheobaa.marksMoves
namespace Go.Proofs.Ytepibodbcheobaa
theorem marksMoves_holds : Rows.MarksMovesUptoSaid := marksMoves.said
#print axioms marksMoves_holds
end Go.Proofs.Ytepibodbcheobaa
