/- PatTimes: which counts a repetition may have; a pattern that is too large by them is refused; the examples hold; nothing that was handed in is changed. Conditions: none beyond the row's own. -/
import Derived.Test.YtnnkcbkenofhmaaKr
import Derived.Test.YtnnkcbkenofhmaaRg
set_option linter.unusedSimpArgs false
set_option linter.unusedVariables false
namespace Go.Proofs.Ytnnkcbkenofhmaa.patTimes
open Go Go.ChangeShapes Go.WideShapes Go.ChangeAt Go.RowKit Go.Proofs.Ytnnkcbkenofhmaa.Am
theorem own : ownKnob Try.prog.godebug = none := by kernel_rfl
theorem contract (H : Type) (enc : TypeId × Value → H) (W : World) (base : Nat) (args : Array Value) (ds gs : List (DataW H)) (before : List MemPlace)
    (hval : ∀ (j : Nat) t v, Try.f4.params[j]? = some t → args[j]? = some v → Value.okWide Try.prog W .any base t v)
    (hW : DataW.Whole enc Try.prog Try.f4.params.toList Rows.patTimesSpec.vars false W args.toList ds gs before) (hsh : W.ShapedOpen Try.prog) :
    Calls Try.prog 4 args W fun e W' => ∃ v, e = .returned v ∧ Rows.patTimesSpec.post enc Try.prog Try.f4 false true false false W args v W' := by
  have hW' := hW
  have hWg := heap_glob hsh
  have hW0 : 0 < W.heap.size := by omega
  obtain ⟨p, q, hA0, hV, rfl, hfz, hnd⟩ := hW
  have hA : DataW.TrodAll enc Try.prog W 0 (fun _ => true) true Try.f4.params.toList args.toList ds p := hA0
  rw [Try.params4] at hA hval
  obtain ⟨v0, vs0, d0, ds0, p0, q0, hargs, rfl, rfl, h0, r0⟩ := trodAll_cons hA
  obtain ⟨v1, vs1, d1, ds1, p1, q1, rfl, rfl, rfl, h1, r1⟩ := trodAll_cons r0
  obtain ⟨rfl, rfl, rfl⟩ := trodAll_nil r1
  obtain rfl : args = #[v0, v1] := by cases args; simp_all
  obtain ⟨rfl, rfl⟩ := trodVars_none hV
  clear hA0
  have h0' := h0
  obtain ⟨z0, rfl, rfl, rfl, hz0⟩ := open_int Try.underlying3 (hval 0 3 v0 rfl rfl) h0
  have hw0 := (Lit.wf_int_iff .i64 z0).1 hz0
  have h1' := h1
  obtain ⟨z1, rfl, rfl, rfl, hz1⟩ := open_int Try.underlying3 (hval 1 3 v1 rfl rfl) h1
  have hw1 := (Lit.wf_int_iff .i64 z1).1 hz1
  have walk : Calls Try.prog 4 #[.int .i64 z0, .int .i64 z1] W fun e w' => e = .returned (.bool true) ∧ Below W.heap.size W w' := by
    refine law_callsG (xs := []) hWg (fun x hx => ?_) (AR.push (AR.push (AR.nil) (VR.int _ _)) (VR.int _ _)) (patTimes_law)
    simp at hx
  refine walk.mono fun e W' ⟨he, hb⟩ => ?_
  subst he
  exact ⟨_, rfl, post_of_below hW' (fun _ _ _ => trodAll_cons_mk (shut_bool Try.underlying4 _) trodAll_mk0)
    (fun sp hsp => (trodAll_cons_mk (WideElems.Trod_stays (by kernel_rfl) (by kernel_rfl) (of_decide_eq_true (by kernel_rfl)) h0' (fun x hx => (List.not_mem_nil hx).elim) (fun x hx => (List.not_mem_nil hx).elim)) (trodAll_cons_mk (WideElems.Trod_stays (by kernel_rfl) (by kernel_rfl) (of_decide_eq_true (by kernel_rfl)) h1' (fun x hx => (List.not_mem_nil hx).elim) (fun x hx => (List.not_mem_nil hx).elim)) trodAll_mk0))) (fun _ _ => rfl) rfl (hb.frame _)⟩
set_option maxRecDepth 100000 in
theorem lifted (os : Os) (started : os.Started) (H : Type) (enc : TypeId × Value → H) (F : Stop.Interp) :
    ReturnsInHanded {} Try.checked os 4 .any ((OpenSpec.ofChange Rows.patTimesSpec).preRow enc Try.prog Try.f4 Rows.patTimesRow.domain false Rows.patTimesRow.laid) (((OpenSpec.ofChange Rows.patTimesSpec).at F).post enc Try.prog Try.f4 false true false false) := by
  obtain ⟨places, hx⟩ : ∃ places, DataW.whole enc Try.prog ((World.plainHolding Try.prog os ⟨#[], #[.int .i64 0, .int .i64 0], []⟩).forCall (fun _ _ => 0) ⟨#[], #[.int .i64 0, .int .i64 0], []⟩).memory Try.f4.params.toList Rows.patTimesSpec.vars false (#[.int .i64 0, .int .i64 0] : Array Value).toList 8 = some ([.lit (.int .i64 0), .lit (.int .i64 0)], [], places) := ⟨[], by kernel_rfl⟩
  refine returnsInHanded_of_row (C := Try.checked) (s := OpenSpec.ofChange Rows.patTimesSpec) own started (by kernel_rfl) Try.func4
    (witness_row_atRef (enc := enc) (C := Try.checked) false (World.plainHolding Try.prog os ⟨#[], #[.int .i64 0, .int .i64 0], []⟩) #[.int .i64 0, .int .i64 0] rfl (by kernel_rfl) (by kernel_rfl) (by kernel_rfl)
      (OpenSpec.preRow_of_cond 8 hx (by kernel_rfl) (fun k hk => by cases hk) (by kernel_rfl) (laidMet_of_run' 8 (by kernel_rfl) (by kernel_rfl)))) ?_
  intro W base args ds gs before hval hW _ hcond _ _ hsh _
  exact contract H enc W base args ds gs before hval hW hsh
theorem said : Rows.PatTimesSaid :=
  OpenClaim.holds_of_cond 4 Try.f4 rfl rfl rfl rfl rfl rfl rfl ⟨rfl, rfl, rfl, rfl, rfl⟩ rfl rfl rfl rfl rfl (by kernel_rfl) Try.func4 (by kernel_rfl)
    (of_decide_eq_true (by kernel_rfl)) (by unfold Func.isWrapper; first | (rw [if_pos (by decide +kernel)]; kernel_rfl) | (rw [if_neg (by decide +kernel)]; exact ⟨rfl, rfl⟩))
    (fun os started H enc _ F => by rw [OpenClaim.pre_eq_preRow]; exact lifted os started H enc F)
end Go.Proofs.Ytnnkcbkenofhmaa.patTimes
namespace Go.Proofs.Ytnnkcbkenofhmaa
theorem patTimes_holds : Rows.PatTimesSaid := patTimes.said
#print axioms patTimes_holds
end Go.Proofs.Ytnnkcbkenofhmaa
