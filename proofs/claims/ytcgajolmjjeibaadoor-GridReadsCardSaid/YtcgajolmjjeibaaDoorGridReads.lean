/- GridReads: the cells of a line that is shown from its first column on, read one by one, are the texts of its units, as far as they have room; the examples hold; nothing that was handed in is changed. Conditions: the row's own (package variables as the program's text lays them, tied by the card). -/
import Derived.Test.YtcgajolmjjeibaaDoorZ2
import Derived.Test.YtcgajolmjjeibaaDoorZ6
import Derived.Test.YtcgajolmjjeibaaDoorZ8
set_option linter.unusedSimpArgs false
set_option linter.unusedVariables false
set_option maxRecDepth 100000
namespace Go.Proofs.YtcgajolmjjeibaaDoor.gridReads
open Go Go.ChangeShapes Go.WideShapes Go.ChangeAt Go.RowKit Go.Proofs.YtcgajolmjjeibaaDoor.Am
theorem own : ownKnob Tryd.prog.godebug = none := by kernel_rfl
theorem contract (H : Type) (enc : TypeId × Value → H) (W : World) (base : Nat) (args : Array Value) (ds gs : List (DataW H)) (before : List MemPlace)
    (hval : ∀ (j : Nat) t v, Tryd.f5.params[j]? = some t → args[j]? = some v → Value.okWide Tryd.prog W .any base t v)
    (hW : DataW.Whole enc Tryd.prog Tryd.f5.params.toList Rows.gridReadsSpec.vars false W args.toList ds gs before) (hL : laidMetH Tryd.prog Rows.gridReadsRow.laid W) (hsh : W.ShapedOpen Tryd.prog) :
    Calls Tryd.prog 5 args W fun e W' => ∃ v, e = .returned v ∧ Rows.gridReadsSpec.post enc Tryd.prog Tryd.f5 false true false false W args v W' := by
  have hW' := hW
  obtain ⟨b, off, t1, t2, t3⟩ := table hL
  have hWg := heap_glob hsh
  have hW0 : 0 < W.heap.size := by omega
  obtain ⟨p, q, hA0, hV, rfl, hfz, hnd⟩ := hW
  have hA : DataW.TrodAll enc Tryd.prog W 0 (fun _ => true) true Tryd.f5.params.toList args.toList ds p := hA0
  rw [Tryd.params5] at hA hval
  obtain ⟨v0, vs0, d0, ds0, p0, q0, hargs, rfl, rfl, h0, r0⟩ := trodAll_cons hA
  obtain ⟨v1, vs1, d1, ds1, p1, q1, rfl, rfl, rfl, h1, r1⟩ := trodAll_cons r0
  obtain ⟨v2, vs2, d2, ds2, p2, q2, rfl, rfl, rfl, h2, r2⟩ := trodAll_cons r1
  obtain ⟨rfl, rfl, rfl⟩ := trodAll_nil r2
  obtain rfl : args = #[v0, v1, v2] := by cases args; simp_all
  obtain ⟨rfl, rfl⟩ := trodVars_none hV
  clear hA0
  have h0' := h0
  obtain ⟨fuel0, hf0⟩ := h0
  obtain ⟨tr0, I0, D0⟩ := imp_of hW0 12 (show shOk Tryd.prog 12 23 = true by kernel_rfl) hf0
  have hc0 : v0.cells.toList = [v0] := by
    obtain ⟨_, _, _, rfl⟩ := okWide_slice Tryd.underlying23 (hval 0 23 v0 rfl rfl)
    rfl
  obtain ⟨bl0, cs0, hl0, hh0⟩ := I0 ((base2 b off).length)
  have h1' := h1
  obtain ⟨z1, rfl, rfl, rfl, hz1⟩ := open_int Tryd.underlying3 (hval 1 3 v1 rfl rfl) h1
  have hw1 := (Lit.wf_int_iff .i64 z1).1 hz1
  have h2' := h2
  obtain ⟨z2, rfl, rfl, rfl, hz2⟩ := open_int Tryd.underlying3 (hval 2 3 v2 rfl rfl) h2
  have hw2 := (Lit.wf_int_iff .i64 z2).1 hz2
  obtain ⟨lies0, vr0, lay0⟩ := hh0 (base2 b off) [] rfl
  simp only [List.nil_append, List.append_nil, List.append_assoc] at lies0 vr0 lay0
  obtain ⟨w0, xs0, rfl, rfl, R0, hr0, hm0⟩ := lay_i32 lay0
  have hv0 : VR (startRen ((base2 b off ++ bl0))) w0 v0 := (vr0 0 w0 v0 rfl (by rw [hc0]; rfl)).2
  have walk : Calls Tryd.prog 5 #[v0, .int .i64 z1, .int .i64 z2] W fun e w' => e = .returned (.bool true) ∧ Below W.heap.size W w' := by
    refine law_calls (xs := bl0) hWg t1 t2 t3 (fun x hx => ?_) (AR.push (AR.push (AR.push (AR.nil) hv0) (VR.int _ _)) (VR.int _ _)) (gridReads_law base2_Gl R0 (isR_getD hr0))
    exact lies0 x hx
  refine walk.mono fun e W' ⟨he, hb⟩ => ?_
  subst he
  exact ⟨_, rfl, post_of_below hW' (fun _ _ _ => trodAll_cons_mk (shut_bool Tryd.underlying4 _) trodAll_mk0)
    (fun sp hsp => (trodAll_cons_mk (WideElems.Trod_stays (by kernel_rfl) (by kernel_rfl) (of_decide_eq_true (by kernel_rfl)) h0' (fun x hx => hb.same (hW'.lt x (by simp [hx]))) (fun x hx => hsp x (by simp [hx]))) (trodAll_cons_mk (WideElems.Trod_stays (by kernel_rfl) (by kernel_rfl) (of_decide_eq_true (by kernel_rfl)) h1' (fun x hx => (List.not_mem_nil hx).elim) (fun x hx => (List.not_mem_nil hx).elim)) (trodAll_cons_mk (WideElems.Trod_stays (by kernel_rfl) (by kernel_rfl) (of_decide_eq_true (by kernel_rfl)) h2' (fun x hx => (List.not_mem_nil hx).elim) (fun x hx => (List.not_mem_nil hx).elim)) trodAll_mk0)))) (fun _ _ => rfl) rfl (hb.frame _)⟩
set_option maxRecDepth 100000 in
theorem lifted (os : Os) (started : os.Started) (H : Type) (enc : TypeId × Value → H) (F : Stop.Interp) :
    ReturnsInHanded {} Tryd.checked os 5 .any ((OpenSpec.ofChange Rows.gridReadsSpec).preRow enc Tryd.prog Tryd.f5 Rows.gridReadsRow.domain false Rows.gridReadsRow.laid) (((OpenSpec.ofChange Rows.gridReadsSpec).at F).post enc Tryd.prog Tryd.f5 false true false false) := by
  obtain ⟨places, hx⟩ : ∃ places, DataW.whole enc Tryd.prog ((World.doorLaid Tryd.prog 600 os).forCall (fun _ _ => 0) ⟨#[], #[.slice none 0 0, .int .i64 0, .int .i64 0], []⟩).memory Tryd.f5.params.toList Rows.gridReadsSpec.vars false (#[.slice none 0 0, .int .i64 0, .int .i64 0] : Array Value).toList 8 = some ([.nil, .lit (.int .i64 0), .lit (.int .i64 0)], [], places) := ⟨[], by kernel_rfl⟩
  refine returnsInHanded_of_row (C := Tryd.checked) (s := OpenSpec.ofChange Rows.gridReadsSpec) own started (by kernel_rfl) Tryd.func5
    (witness_row_atRef (enc := enc) (C := Tryd.checked) false (World.doorLaid Tryd.prog 600 os) #[.slice none 0 0, .int .i64 0, .int .i64 0] rfl (by kernel_rfl) (by kernel_rfl) (by kernel_rfl)
      (OpenSpec.preRow_of_cond 8 hx (by kernel_rfl) (fun k hk => by cases hk) (by kernel_rfl) (laidMet_of_run' 8 (by kernel_rfl) (by kernel_rfl)))) ?_
  intro W base args ds gs before hval hW _ hcond _ hL hsh _
  exact contract H enc W base args ds gs before hval hW hL hsh
theorem said : Rows.GridReadsSaid :=
  OpenClaim.holds_of_cond 5 Tryd.f5 rfl rfl rfl rfl rfl rfl rfl ⟨rfl, rfl, rfl, rfl, rfl⟩ rfl rfl rfl rfl rfl (by kernel_rfl) Tryd.func5 (by kernel_rfl)
    (of_decide_eq_true (by kernel_rfl)) (by unfold Func.isWrapper; first | (rw [if_pos (by decide +kernel)]; kernel_rfl) | (rw [if_neg (by decide +kernel)]; exact ⟨rfl, rfl⟩))
    (fun os started H enc _ F => by rw [OpenClaim.pre_eq_preRow]; exact lifted os started H enc F)
theorem plain (f : FuncId) (fn : Func) (hf : Tryd.pinned.checked.prog.funcNamed "inkhorn/inkhornlaw20.GridReads" = some f) (hfn : Tryd.pinned.checked.prog.funcs[f]? = some fn) :
    false = Tryd.pinned.checked.prog.looks [] ∧ ∀ (j : Nat) t, fn.params[j]? = some t → Tryd.pinned.checked.prog.wantsStandIn t = false := by
  obtain rfl : f = 5 := Option.some.inj ((show Tryd.prog.funcNamed "inkhorn/inkhornlaw20.GridReads" = some 5 by kernel_rfl).symm.trans hf) |>.symm
  obtain rfl : fn = Tryd.f5 := (Option.some.inj (Tryd.func5.symm.trans hfn)).symm
  refine ⟨by kernel_rfl, fun j t ht => ?_⟩
  rw [Tryd.params5] at ht
  have ht2 : t = 23 ∨ t = 3 := by have := Array.mem_of_getElem? ht; simp at this; omega
  rcases ht2 with rfl | rfl
  · exact (show Tryd.prog.wantsStandIn 23 = false by kernel_rfl)
  · exact (show Tryd.prog.wantsStandIn 3 = false by kernel_rfl)
end Go.Proofs.YtcgajolmjjeibaaDoor.gridReads
namespace Go.Proofs.YtcgajolmjjeibaaDoor
open Go
theorem gridReads_card : Rows.GridReadsCardSaid :=
  Claim7.holds_tied_plain_at .later [] _ _ _ _ gridReads.said (fun _ h => by cases h) (by kernel_rfl) (fun _ h => by cases h) gridReads_row_tie rfl ⟨rfl, rfl⟩ (by kernel_rfl) rfl gridReads.plain (by kernel_rfl)
#print axioms gridReads_card
end Go.Proofs.YtcgajolmjjeibaaDoor
