/- CellFront: for every line, every more and every tab, what stands behind the line's beginning changes nothing of the units that end ahead of it; the examples hold; nothing that was handed in is changed. Conditions: the row's own (the table of ranges as the program's text lays it, tied by the card). -/
import Derived.Test.YtcnjmmffipjadaaDoorRb
import Derived.Test.YtcnjmmffipjadaaDoorLf
import Derived.Test.YtcnjmmffipjadaaDoorAmArgs
import Derived.Carry
set_option linter.unusedSimpArgs false
set_option linter.unusedVariables false
namespace Go.Proofs.YtcnjmmffipjadaaDoor.cellFront
open Go Go.ChangeShapes Go.WideShapes Go.ChangeAt Go.RowKit Go.Proofs.YtcnjmmffipjadaaDoor.Am
theorem own : ownKnob Tryd.prog.godebug = none := by kernel_rfl
theorem contract (H : Type) (enc : TypeId × Value → H) (W : World) (base : Nat) (args : Array Value) (ds gs : List (DataW H)) (before : List MemPlace)
    (hval : ∀ (j : Nat) t v, Tryd.f6.params[j]? = some t → args[j]? = some v → Value.okWide Tryd.prog W .any base t v)
    (hW : DataW.Whole enc Tryd.prog Tryd.f6.params.toList Rows.cellFrontSpec.vars false W args.toList ds gs before) (hL : laidMetH Tryd.prog Rows.cellFrontRow.laid W) :
    Calls Tryd.prog 6 args W fun e W' => ∃ v, e = .returned v ∧ Rows.cellFrontSpec.post enc Tryd.prog Tryd.f6 false true false false W args v W' := by
  have hW' := hW
  obtain ⟨p, q, hA0, hV, rfl, hfz, hnd⟩ := hW
  have hA : DataW.TrodAll enc Tryd.prog W 0 (fun _ => true) true Tryd.f6.params.toList args.toList ds p := hA0
  rw [Tryd.params6] at hA hval
  obtain ⟨v0, vs0, d0, ds0, p0, q0, hargs, rfl, rfl, h0, r0⟩ := trodAll_cons hA
  obtain ⟨v1, vs1, d1, ds1, p1, q1, rfl, rfl, rfl, h1, r1⟩ := trodAll_cons r0
  obtain ⟨v2, vs2, d2, ds2, p2, q2, rfl, rfl, rfl, h2, r2⟩ := trodAll_cons r1
  obtain ⟨rfl, rfl, rfl⟩ := trodAll_nil r2
  obtain rfl : args = #[v0, v1, v2] := by cases args; simp_all
  obtain ⟨rfl, rfl⟩ := trodVars_none hV
  clear hA0
  obtain ⟨b, off, t1, t2, t3⟩ := table hL
  have h0' := h0
  obtain ⟨fuel0, hf0⟩ := h0
  have hc0 : v0.cells.toList = [v0] := by
    obtain ⟨_, _, _, rfl⟩ := okWide_slice Tryd.underlying24 (hval 0 24 v0 rfl rfl)
    rfl
  obtain ⟨xs0, L0, w0, hwf0, harg0⟩ := arg_ints Tryd.underlying24 Tryd.underlying21 (show Tryd.prog.cellsOf 21 = 1 by kernel_rfl) elem21 fits21.2.2 (by omega) hc0 hf0 2
  have h1' := h1
  obtain ⟨fuel1, hf1⟩ := h1
  have hc1 : v1.cells.toList = [v1] := by
    obtain ⟨_, _, _, rfl⟩ := okWide_slice Tryd.underlying24 (hval 1 24 v1 rfl rfl)
    rfl
  obtain ⟨xs1, L1, w1, hwf1, harg1⟩ := arg_ints Tryd.underlying24 Tryd.underlying21 (show Tryd.prog.cellsOf 21 = 1 by kernel_rfl) elem21 fits21.2.2 (by omega) hc1 hf1 3
  have h2' := h2
  obtain ⟨z2, rfl, rfl, rfl, hz2⟩ := open_int Tryd.underlying3 (hval 2 3 v2 rfl rfl) h2
  have hw2 := (Lit.wf_int_iff .i64 z2).1 hz2
  obtain ⟨lies0, hv0, hrd0⟩ := harg0 (base2 b off ++ [(inBlk 21 (xs0.map (Value.int .i32)), L0), (inBlk 21 (xs1.map (Value.int .i32)), L1)]) rfl
  obtain ⟨lies1, hv1, hrd1⟩ := harg1 (base2 b off ++ [(inBlk 21 (xs0.map (Value.int .i32)), L0), (inBlk 21 (xs1.map (Value.int .i32)), L1)]) rfl
  have walk : Calls Tryd.prog 6 #[v0, v1, .int .i64 z2] W fun e w' => e = .returned (.bool true) ∧ Below W.heap.size W w' :=
    law_calls (xs := [(inBlk 21 (xs0.map (Value.int .i32)), L0), (inBlk 21 (xs1.map (Value.int .i32)), L1)]) t1 t2 t3 (fun x hx => by
      simp only [List.mem_cons, List.not_mem_nil, or_false] at hx
      rcases hx with rfl | rfl
      · exact lies0
      · exact lies1
      ) (AR.push (AR.push (AR.push (AR.nil) hv0) hv1) (VR.int _ _)) (cellFront_law hrd0 hrd1 base2_Gl (isR_getD fun z hz => (Lit.wf_int_iff .i32 z).1 (hwf0 z hz)) (isR_getD fun z hz => (Lit.wf_int_iff .i32 z).1 (hwf1 z hz)))
  refine walk.mono fun e W' ⟨he, hb⟩ => ?_
  subst he
  exact ⟨_, rfl, post_of_below hW' (fun _ _ _ => trodAll_cons_mk (shut_bool Tryd.underlying4 _) trodAll_mk0)
    (fun sp hsp => (trodAll_cons_mk (WideElems.Trod_stays (by kernel_rfl) (by kernel_rfl) (of_decide_eq_true (by kernel_rfl)) h0' (fun x hx => hb.same (hW'.lt x (by simp [hx]))) (fun x hx => hsp x (by simp [hx]))) (trodAll_cons_mk (WideElems.Trod_stays (by kernel_rfl) (by kernel_rfl) (of_decide_eq_true (by kernel_rfl)) h1' (fun x hx => hb.same (hW'.lt x (by simp [hx]))) (fun x hx => hsp x (by simp [hx]))) (trodAll_cons_mk (WideElems.Trod_stays (by kernel_rfl) (by kernel_rfl) (of_decide_eq_true (by kernel_rfl)) h2' (fun x hx => (List.not_mem_nil hx).elim) (fun x hx => (List.not_mem_nil hx).elim)) trodAll_mk0)))) (fun _ _ => rfl) rfl (hb.frame _)⟩
theorem laid_met (os : Os) : laidMet Tryd.prog Rows.cellFrontRow.laid ((World.doorLaid Tryd.prog 600 os).forCall (fun _ _ => 0) ⟨#[], #[.slice none 0 0, .slice none 0 0, .int .i64 0], []⟩).memory :=
  laidMet_of_run' 8 (by kernel_rfl) (by kernel_rfl)
theorem reads (os : Os) {H : Type} (enc : TypeId × Value → H) : ∃ places, DataW.whole enc Tryd.prog ((World.doorLaid Tryd.prog 600 os).forCall (fun _ _ => 0) ⟨#[], #[.slice none 0 0, .slice none 0 0, .int .i64 0], []⟩).memory Tryd.f6.params.toList Rows.cellFrontSpec.vars false (#[.slice none 0 0, .slice none 0 0, .int .i64 0] : Array Value).toList 8 = some ([.nil, .nil, .lit (.int .i64 0)], [], places) :=
  ⟨[], by kernel_rfl⟩
set_option maxRecDepth 100000 in
theorem lifted (os : Os) (started : os.Started) (H : Type) (enc : TypeId × Value → H) (F : Stop.Interp) :
    ReturnsInHanded {} Tryd.checked os 6 .any ((OpenSpec.ofChange Rows.cellFrontSpec).preRow enc Tryd.prog Tryd.f6 Rows.cellFrontRow.domain false Rows.cellFrontRow.laid) (((OpenSpec.ofChange Rows.cellFrontSpec).at F).post enc Tryd.prog Tryd.f6 false true false false) := by
  obtain ⟨places, hx⟩ := reads os enc
  refine returnsInHanded_of_row (C := Tryd.checked) (s := OpenSpec.ofChange Rows.cellFrontSpec) own started (by kernel_rfl) Tryd.func6
    (witness_row_atRef (enc := enc) (C := Tryd.checked) false (World.doorLaid Tryd.prog 600 os) #[.slice none 0 0, .slice none 0 0, .int .i64 0] rfl (by kernel_rfl) (by kernel_rfl) (by kernel_rfl)
      (OpenSpec.preRow_of_cond 8 hx (by kernel_rfl) (fun k hk => by cases hk) (by kernel_rfl) (laid_met os))) ?_
  intro W base args ds gs before hval hW _ _ _ hL _ _
  exact contract H enc W base args ds gs before hval hW hL
theorem said : Rows.CellFrontSaid :=
  OpenClaim.holds_of_cond 6 Tryd.f6 rfl rfl rfl rfl rfl rfl rfl ⟨rfl, rfl, rfl, rfl, rfl⟩ rfl rfl rfl rfl rfl (by kernel_rfl) Tryd.func6 (by kernel_rfl)
    (of_decide_eq_true (by kernel_rfl)) (by unfold Func.isWrapper; first | (rw [if_pos (by decide +kernel)]; kernel_rfl) | (rw [if_neg (by decide +kernel)]; exact ⟨rfl, rfl⟩))
    (fun os started H enc _ F => by rw [OpenClaim.pre_eq_preRow]; exact lifted os started H enc F)
theorem plain (f : FuncId) (fn : Func) (hf : Tryd.pinned.checked.prog.funcNamed "inkhorn/inkhornlaw02.CellFront" = some f) (hfn : Tryd.pinned.checked.prog.funcs[f]? = some fn) :
    false = Tryd.pinned.checked.prog.looks [] ∧ ∀ (j : Nat) t, fn.params[j]? = some t → Tryd.pinned.checked.prog.wantsStandIn t = false := by
  obtain rfl : f = 6 := Option.some.inj ((show Tryd.prog.funcNamed "inkhorn/inkhornlaw02.CellFront" = some 6 by kernel_rfl).symm.trans hf) |>.symm
  obtain rfl : fn = Tryd.f6 := (Option.some.inj (Tryd.func6.symm.trans hfn)).symm
  refine ⟨by kernel_rfl, fun j t ht => ?_⟩
  rw [Tryd.params6] at ht
  have ht2 : t = 24 ∨ t = 3 := by have := Array.mem_of_getElem? ht; simp at this; omega
  rcases ht2 with rfl | rfl
  · exact (show Tryd.prog.wantsStandIn 24 = false by kernel_rfl)
  · exact (show Tryd.prog.wantsStandIn 3 = false by kernel_rfl)
end Go.Proofs.YtcnjmmffipjadaaDoor.cellFront
namespace Go.Proofs.YtcnjmmffipjadaaDoor
open Go
theorem cellFront_card : Rows.CellFrontCardSaid :=
  Claim7.holds_tied_plain_at .later [] _ _ _ _ cellFront.said (fun _ h => by cases h) (by kernel_rfl) (fun _ h => by cases h) cellFront_row_tie rfl ⟨rfl, rfl⟩ (by kernel_rfl) rfl cellFront.plain (by kernel_rfl)
#print axioms cellFront_card
end Go.Proofs.YtcnjmmffipjadaaDoor
