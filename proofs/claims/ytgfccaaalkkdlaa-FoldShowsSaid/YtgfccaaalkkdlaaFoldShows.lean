/- FoldShows: which rows show any lines, and which line is shown next to any one, are the document's; the examples hold; nothing that was handed in is changed. Conditions: none beyond the row's own. -/
import Derived.Test.YtgfccaaalkkdlaaOh
import Derived.Test.YtgfccaaalkkdlaaPa
set_option linter.unusedSimpArgs false
set_option linter.unusedVariables false
namespace Go.Proofs.Ytgfccaaalkkdlaa.foldShows
open Go Go.ChangeShapes Go.WideShapes Go.ChangeAt Go.RowKit Go.Proofs.Ytgfccaaalkkdlaa.Am
theorem own : ownKnob Try.prog.godebug = none := by kernel_rfl
theorem contract (H : Type) (enc : TypeId × Value → H) (W : World) (base : Nat) (args : Array Value) (ds gs : List (DataW H)) (before : List MemPlace)
    (hval : ∀ (j : Nat) t v, Try.f3.params[j]? = some t → args[j]? = some v → Value.okWide Try.prog W .any base t v)
    (hW : DataW.Whole enc Try.prog Try.f3.params.toList Rows.foldShowsSpec.vars false W args.toList ds gs before) (hsh : W.ShapedOpen Try.prog) :
    Calls Try.prog 3 args W fun e W' => ∃ v, e = .returned v ∧ Rows.foldShowsSpec.post enc Try.prog Try.f3 false true false false W args v W' := by
  have hW' := hW
  have hW0 := heap_pos hsh
  obtain ⟨p, q, hA0, hV, rfl, hfz, hnd⟩ := hW
  have hA : DataW.TrodAll enc Try.prog W 0 (fun _ => true) true Try.f3.params.toList args.toList ds p := hA0
  rw [Try.params3] at hA hval
  obtain ⟨v0, vs0, d0, ds0, p0, q0, hargs, rfl, rfl, h0, r0⟩ := trodAll_cons hA
  obtain ⟨v1, vs1, d1, ds1, p1, q1, rfl, rfl, rfl, h1, r1⟩ := trodAll_cons r0
  obtain ⟨v2, vs2, d2, ds2, p2, q2, rfl, rfl, rfl, h2, r2⟩ := trodAll_cons r1
  obtain ⟨rfl, rfl, rfl⟩ := trodAll_nil r2
  obtain rfl : args = #[v0, v1, v2] := by cases args; simp_all
  obtain ⟨rfl, rfl⟩ := trodVars_none hV
  clear hA0
  have h0' := h0
  obtain ⟨fuel0, hf0⟩ := h0
  obtain ⟨tr0, I0, D0⟩ := imp_of hW0 12 (show shOk Try.prog 12 22 = true by kernel_rfl) hf0
  have hc0 : v0.cells.toList = [v0] := by
    obtain ⟨_, _, _, rfl⟩ := okWide_slice Try.underlying22 (hval 0 22 v0 rfl rfl)
    rfl
  obtain ⟨bl0, cs0, hl0, hh0⟩ := I0 (0)
  have h1' := h1
  obtain ⟨z1, rfl, rfl, rfl, hz1⟩ := open_int Try.underlying3 (hval 1 3 v1 rfl rfl) h1
  have hw1 := (Lit.wf_int_iff .i64 z1).1 hz1
  have h2' := h2
  obtain ⟨z2, rfl, rfl, rfl, hz2⟩ := open_int Try.underlying3 (hval 2 3 v2 rfl rfl) h2
  have hw2 := (Lit.wf_int_iff .i64 z2).1 hz2
  obtain ⟨lies0, vr0, lay0⟩ := hh0 [] [] rfl
  simp only [List.nil_append, List.append_nil, ← List.append_assoc] at lies0 vr0 lay0
  obtain ⟨w0, l0, rfl, rfl, R0, hm0⟩ := lay_folds lay0
  have hv0 : VR (startRen (bl0)) w0 v0 := (vr0 0 w0 v0 rfl (by rw [hc0]; rfl)).2
  have walk : Calls Try.prog 3 #[v0, .int .i64 z1, .int .i64 z2] W fun e w' => e = .returned (.bool true) ∧ Below W.heap.size W w' := by
    refine law_calls0 (xs := bl0) (fun x hx => ?_) (AR.push (AR.push (AR.push (AR.nil) hv0) (VR.int _ _)) (VR.int _ _)) (foldShows_law R0 (Nat.le_trans hm0 (by decide)) hw2.1)
    exact lies0 x hx
  refine walk.mono fun e W' ⟨he, hb⟩ => ?_
  subst he
  exact ⟨_, rfl, post_of_below hW' (fun _ _ _ => trodAll_cons_mk (shut_bool Try.underlying4 _) trodAll_mk0)
    (fun sp hsp => (trodAll_cons_mk (WideElems.Trod_stays (by kernel_rfl) (by kernel_rfl) (of_decide_eq_true (by kernel_rfl)) h0' (fun x hx => hb.same (hW'.lt x (by simp [hx]))) (fun x hx => hsp x (by simp [hx]))) (trodAll_cons_mk (WideElems.Trod_stays (by kernel_rfl) (by kernel_rfl) (of_decide_eq_true (by kernel_rfl)) h1' (fun x hx => (List.not_mem_nil hx).elim) (fun x hx => (List.not_mem_nil hx).elim)) (trodAll_cons_mk (WideElems.Trod_stays (by kernel_rfl) (by kernel_rfl) (of_decide_eq_true (by kernel_rfl)) h2' (fun x hx => (List.not_mem_nil hx).elim) (fun x hx => (List.not_mem_nil hx).elim)) trodAll_mk0)))) (fun _ _ => rfl) rfl (hb.frame _)⟩
set_option maxRecDepth 100000 in
theorem lifted (os : Os) (started : os.Started) (H : Type) (enc : TypeId × Value → H) (F : Stop.Interp) :
    ReturnsInHanded {} Try.checked os 3 .any ((OpenSpec.ofChange Rows.foldShowsSpec).preRow enc Try.prog Try.f3 Rows.foldShowsRow.domain false Rows.foldShowsRow.laid) (((OpenSpec.ofChange Rows.foldShowsSpec).at F).post enc Try.prog Try.f3 false true false false) := by
  obtain ⟨places, hx⟩ : ∃ places, DataW.whole enc Try.prog ((World.plainHolding Try.prog os ⟨#[], #[.slice none 0 0, .int .i64 0, .int .i64 0], []⟩).forCall (fun _ _ => 0) ⟨#[], #[.slice none 0 0, .int .i64 0, .int .i64 0], []⟩).memory Try.f3.params.toList Rows.foldShowsSpec.vars false (#[.slice none 0 0, .int .i64 0, .int .i64 0] : Array Value).toList 8 = some ([.nil, .lit (.int .i64 0), .lit (.int .i64 0)], [], places) := ⟨[], by kernel_rfl⟩
  refine returnsInHanded_of_row (C := Try.checked) (s := OpenSpec.ofChange Rows.foldShowsSpec) own started (by kernel_rfl) Try.func3
    (witness_row_atRef (enc := enc) (C := Try.checked) false (World.plainHolding Try.prog os ⟨#[], #[.slice none 0 0, .int .i64 0, .int .i64 0], []⟩) #[.slice none 0 0, .int .i64 0, .int .i64 0] rfl (by kernel_rfl) (by kernel_rfl) (by kernel_rfl)
      (OpenSpec.preRow_of_cond 8 hx (by kernel_rfl) (fun k hk => by cases hk) (by kernel_rfl) (laidMet_of_run' 8 (by kernel_rfl) (by kernel_rfl)))) ?_
  intro W base args ds gs before hval hW _ hcond _ _ hsh _
  exact contract H enc W base args ds gs before hval hW hsh
theorem said : Rows.FoldShowsSaid :=
  OpenClaim.holds_of_cond 3 Try.f3 rfl rfl rfl rfl rfl rfl rfl ⟨rfl, rfl, rfl, rfl, rfl⟩ rfl rfl rfl rfl rfl (by kernel_rfl) Try.func3 (by kernel_rfl)
    (of_decide_eq_true (by kernel_rfl)) (by unfold Func.isWrapper; first | (rw [if_pos (by decide +kernel)]; kernel_rfl) | (rw [if_neg (by decide +kernel)]; exact ⟨rfl, rfl⟩))
    (fun os started H enc _ F => by rw [OpenClaim.pre_eq_preRow]; exact lifted os started H enc F)
end Go.Proofs.Ytgfccaaalkkdlaa.foldShows
namespace Go.Proofs.Ytgfccaaalkkdlaa
theorem foldShows_holds : Rows.FoldShowsSaid := foldShows.said
#print axioms foldShows_holds
end Go.Proofs.Ytgfccaaalkkdlaa
