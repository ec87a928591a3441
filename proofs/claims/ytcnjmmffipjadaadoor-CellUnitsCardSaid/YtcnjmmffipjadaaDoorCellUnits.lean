/- CellUnits: for every line (of more than 1000 runes nothing is asked) and every tab the program's units and columns are the document's; the examples hold; nothing that was handed in is changed. Conditions: the row's own (the table of ranges as the program's text lays it, tied by the card). -/
import Derived.Test.YtcnjmmffipjadaaDoorRb
import Derived.Test.YtcnjmmffipjadaaDoorLb
import Derived.Test.YtcnjmmffipjadaaDoorAmArgs
import Derived.Carry
set_option linter.unusedSimpArgs false
set_option linter.unusedVariables false
namespace Go.Proofs.YtcnjmmffipjadaaDoor.cellUnits
open Go Go.ChangeShapes Go.WideShapes Go.ChangeAt Go.RowKit Go.Proofs.YtcnjmmffipjadaaDoor.Am
theorem own : ownKnob Tryd.prog.godebug = none := by kernel_rfl
theorem contract (H : Type) (enc : TypeId × Value → H) (W : World) (base : Nat) (args : Array Value) (ds gs : List (DataW H)) (before : List MemPlace)
    (hval : ∀ (j : Nat) t v, Tryd.f7.params[j]? = some t → args[j]? = some v → Value.okWide Tryd.prog W .any base t v)
    (hW : DataW.Whole enc Tryd.prog Tryd.f7.params.toList Rows.cellUnitsSpec.vars false W args.toList ds gs before) (hL : laidMetH Tryd.prog Rows.cellUnitsRow.laid W) :
    Calls Tryd.prog 7 args W fun e W' => ∃ v, e = .returned v ∧ Rows.cellUnitsSpec.post enc Tryd.prog Tryd.f7 false true false false W args v W' := by
  have hW' := hW
  obtain ⟨p, q, hA0, hV, rfl, hfz, hnd⟩ := hW
  have hA : DataW.TrodAll enc Tryd.prog W 0 (fun _ => true) true Tryd.f7.params.toList args.toList ds p := hA0
  rw [Tryd.params7] at hA hval
  obtain ⟨v0, vs0, d0, ds0, p0, q0, hargs, rfl, rfl, h0, r0⟩ := trodAll_cons hA
  obtain ⟨v1, vs1, d1, ds1, p1, q1, rfl, rfl, rfl, h1, r1⟩ := trodAll_cons r0
  obtain ⟨rfl, rfl, rfl⟩ := trodAll_nil r1
  obtain rfl : args = #[v0, v1] := by cases args; simp_all
  obtain ⟨rfl, rfl⟩ := trodVars_none hV
  obtain ⟨tab, rfl, rfl, rfl, ht⟩ := open_int Tryd.underlying3 (hval 1 3 v1 rfl rfl) h1
  clear hA0
  simp only [List.append_nil, List.nil_append] at hW'
  obtain ⟨b, off, t1, t2, t3⟩ := table hL
  have h0' := h0
  obtain ⟨fuel, hf⟩ := h0
  have hc0 : v0.cells.toList = [v0] := by
    obtain ⟨_, _, _, rfl⟩ := okWide_slice Tryd.underlying24 (hval 0 24 v0 rfl rfl)
    rfl
  obtain ⟨xs, L, v, hwf, harg⟩ := arg_ints Tryd.underlying24 Tryd.underlying21 cells21 elem21 fits21.2.2 (by omega) hc0 hf 2
  obtain ⟨lies, hv, hrd⟩ := harg (base2 b off ++ [(inBlk 21 (xs.map (Value.int .i32)), L)]) rfl
  have hR : ∀ j, isR (xs.getD j 0) := isR_getD fun z hz => (Lit.wf_int_iff .i32 z).1 (hwf z hz)
  have walk : Calls Tryd.prog 7 #[v0, .int .i64 tab] W fun e w' => e = .returned (.bool true) ∧ Below W.heap.size W w' :=
    law_calls (xs := [(inBlk 21 (xs.map (Value.int .i32)), L)]) t1 t2 t3 (fun x hx => by simp only [List.mem_singleton] at hx; subst hx; exact lies) (AR.push (AR.push AR.nil hv) (VR.int _ _)) (cellUnits_law hrd base2_Gl hR)
  refine walk.mono fun e W' ⟨he, hb⟩ => ?_
  subst he
  exact ⟨_, rfl, post_of_below (pa := p0) (pv := []) hW' (fun _ _ _ => trodAll_cons_mk (shut_bool Tryd.underlying4 _) trodAll_mk0)
    (fun sp hsp => by
      have := trodAll_cons_mk (WideElems.Trod_stays (by kernel_rfl) (by kernel_rfl) (of_decide_eq_true (by kernel_rfl)) h0' (fun x hx => hb.same (hW'.lt x hx)) hsp) (trodAll_cons_mk (shut_int Tryd.underlying3 ht) trodAll_mk0)
      have this2 : DataW.TrodAll enc Tryd.prog W' 0 sp true [24, 3] [v0, .int .i64 tab] [d0, .lit (.int .i64 tab)] p0 := by simpa using this
      exact this2) (fun _ _ => rfl) (by simp) (hb.frame _)⟩
theorem laid_met (os : Os) : laidMet Tryd.prog Rows.cellUnitsRow.laid ((World.doorLaid Tryd.prog 600 os).forCall (fun _ _ => 0) ⟨#[], #[.slice none 0 0, .int .i64 0], []⟩).memory :=
  laidMet_of_run' 8 (by kernel_rfl) (by kernel_rfl)
theorem reads (os : Os) {H : Type} (enc : TypeId × Value → H) : ∃ places, DataW.whole enc Tryd.prog ((World.doorLaid Tryd.prog 600 os).forCall (fun _ _ => 0) ⟨#[], #[.slice none 0 0, .int .i64 0], []⟩).memory Tryd.f7.params.toList Rows.cellUnitsSpec.vars false #[Value.slice none 0 0, Value.int .i64 0].toList 8 = some ([.nil, .lit (.int .i64 0)], [], places) :=
  ⟨[], by kernel_rfl⟩
set_option maxRecDepth 100000 in
theorem lifted (os : Os) (started : os.Started) (H : Type) (enc : TypeId × Value → H) (F : Stop.Interp) :
    ReturnsInHanded {} Tryd.checked os 7 .any ((OpenSpec.ofChange Rows.cellUnitsSpec).preRow enc Tryd.prog Tryd.f7 Rows.cellUnitsRow.domain false Rows.cellUnitsRow.laid) (((OpenSpec.ofChange Rows.cellUnitsSpec).at F).post enc Tryd.prog Tryd.f7 false true false false) := by
  obtain ⟨places, hx⟩ := reads os enc
  refine returnsInHanded_of_row (C := Tryd.checked) (s := OpenSpec.ofChange Rows.cellUnitsSpec) own started (by kernel_rfl) Tryd.func7
    (witness_row_atRef (enc := enc) (C := Tryd.checked) false (World.doorLaid Tryd.prog 600 os) #[.slice none 0 0, .int .i64 0] rfl (by kernel_rfl) (by kernel_rfl) (by kernel_rfl)
      (OpenSpec.preRow_of_cond 8 hx (by kernel_rfl) (fun k hk => by cases hk) (by kernel_rfl) (laid_met os))) ?_
  intro W base args ds gs before hval hW _ _ _ hL _ _
  exact contract H enc W base args ds gs before hval hW hL
theorem said : Rows.CellUnitsSaid :=
  OpenClaim.holds_of_cond 7 Tryd.f7 rfl rfl rfl rfl rfl rfl rfl ⟨rfl, rfl, rfl, rfl, rfl⟩ rfl rfl rfl rfl rfl (by kernel_rfl) Tryd.func7 (by kernel_rfl)
    (of_decide_eq_true (by kernel_rfl)) (by unfold Func.isWrapper; first | (rw [if_pos (by decide +kernel)]; kernel_rfl) | (rw [if_neg (by decide +kernel)]; exact ⟨rfl, rfl⟩))
    (fun os started H enc _ F => by rw [OpenClaim.pre_eq_preRow]; exact lifted os started H enc F)
theorem plain (f : FuncId) (fn : Func) (hf : Tryd.pinned.checked.prog.funcNamed "inkhorn/inkhornlaw02.CellUnits" = some f) (hfn : Tryd.pinned.checked.prog.funcs[f]? = some fn) :
    false = Tryd.pinned.checked.prog.looks [] ∧ ∀ (j : Nat) t, fn.params[j]? = some t → Tryd.pinned.checked.prog.wantsStandIn t = false := by
  obtain rfl : f = 7 := Option.some.inj ((show Tryd.prog.funcNamed "inkhorn/inkhornlaw02.CellUnits" = some 7 by kernel_rfl).symm.trans hf) |>.symm
  obtain rfl : fn = Tryd.f7 := (Option.some.inj (Tryd.func7.symm.trans hfn)).symm
  refine ⟨by kernel_rfl, fun j t ht => ?_⟩
  rw [Tryd.params7] at ht
  have ht2 : t = 24 ∨ t = 3 := by simpa using Array.mem_of_getElem? ht
  rcases ht2 with rfl | rfl
  · exact (show Tryd.prog.wantsStandIn 24 = false by kernel_rfl)
  · exact (show Tryd.prog.wantsStandIn 3 = false by kernel_rfl)
end Go.Proofs.YtcnjmmffipjadaaDoor.cellUnits
namespace Go.Proofs.YtcnjmmffipjadaaDoor
open Go
theorem cellUnits_card : Rows.CellUnitsCardSaid :=
  Claim7.holds_tied_plain_at .later [] _ _ _ _ cellUnits.said (fun _ h => by cases h) (by kernel_rfl) (fun _ h => by cases h) cellUnits_row_tie rfl ⟨rfl, rfl⟩ (by kernel_rfl) rfl cellUnits.plain (by kernel_rfl)
#print axioms cellUnits_card
end Go.Proofs.YtcnjmmffipjadaaDoor
