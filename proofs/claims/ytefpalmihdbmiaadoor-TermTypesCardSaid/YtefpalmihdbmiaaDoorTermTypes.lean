/- TermTypes: runes that have room, typed at a place, stand there, and nothing else is changed; the examples hold; nothing that was handed in is changed. Conditions: the row's own (the table of ranges as the program's text lays it, tied by the card). -/
import Derived.Test.YtefpalmihdbmiaaDoorZ2
import Derived.Test.YtefpalmihdbmiaaDoorZ7
import Derived.Test.YtefpalmihdbmiaaDoorZ10
set_option linter.unusedSimpArgs false
set_option linter.unusedVariables false
namespace Go.Proofs.YtefpalmihdbmiaaDoor.termTypes
open Go Go.ChangeShapes Go.WideShapes Go.ChangeAt Go.RowKit Go.Proofs.YtefpalmihdbmiaaDoor.Am
theorem own : ownKnob Tryd.prog.godebug = none := by kernel_rfl
theorem contract (H : Type) (enc : TypeId × Value → H) (W : World) (base : Nat) (args : Array Value) (ds gs : List (DataW H)) (before : List MemPlace)
    (hval : ∀ (j : Nat) t v, Tryd.f6.params[j]? = some t → args[j]? = some v → Value.okWide Tryd.prog W .any base t v)
    (hW : DataW.Whole enc Tryd.prog Tryd.f6.params.toList Rows.termTypesSpec.vars false W args.toList ds gs before) (hL : laidMetH Tryd.prog Rows.termTypesRow.laid W) :
    Calls Tryd.prog 6 args W fun e W' => ∃ v, e = .returned v ∧ Rows.termTypesSpec.post enc Tryd.prog Tryd.f6 false true false false W args v W' := by
  have hW' := hW
  obtain ⟨b, off, t1, t2, t3⟩ := table hL
  have hW0 : 0 < W.heap.size := by omega
  obtain ⟨p, q, hA0, hV, rfl, hfz, hnd⟩ := hW
  have hA : DataW.TrodAll enc Tryd.prog W 0 (fun _ => true) true Tryd.f6.params.toList args.toList ds p := hA0
  rw [Tryd.params6] at hA hval
  obtain ⟨v0, vs0, d0, ds0, p0, q0, hargs, rfl, rfl, h0, r0⟩ := trodAll_cons hA
  obtain ⟨v1, vs1, d1, ds1, p1, q1, rfl, rfl, rfl, h1, r1⟩ := trodAll_cons r0
  obtain ⟨v2, vs2, d2, ds2, p2, q2, rfl, rfl, rfl, h2, r2⟩ := trodAll_cons r1
  obtain ⟨v3, vs3, d3, ds3, p3, q3, rfl, rfl, rfl, h3, r3⟩ := trodAll_cons r2
  obtain ⟨rfl, rfl, rfl⟩ := trodAll_nil r3
  obtain rfl : args = #[v0, v1, v2, v3] := by cases args; simp_all
  obtain ⟨rfl, rfl⟩ := trodVars_none hV
  clear hA0
  have h0' := h0
  obtain ⟨fuel0, hf0⟩ := h0
  obtain ⟨tr0, I0, D0⟩ := imp_of hW0 12 (show shOk Tryd.prog 12 23 = true by kernel_rfl) hf0
  obtain ⟨vc0, rfl⟩ : ∃ vc, v0 = .agg vc := by
    obtain ⟨cs, e, _⟩ := hval 0 23 v0 rfl rfl
    exact ⟨cs, e⟩
  obtain ⟨bl0, cs0, hl0, hh0⟩ := I0 ((base2 b off).length)
  have h1' := h1
  obtain ⟨z1, rfl, rfl, rfl, hz1⟩ := open_int Tryd.underlying3 (hval 1 3 v1 rfl rfl) h1
  have hw1 := (Lit.wf_int_iff .i64 z1).1 hz1
  have h2' := h2
  obtain ⟨z2, rfl, rfl, rfl, hz2⟩ := open_int Tryd.underlying3 (hval 2 3 v2 rfl rfl) h2
  have hw2 := (Lit.wf_int_iff .i64 z2).1 hz2
  have h3' := h3
  obtain ⟨fuel3, hf3⟩ := h3
  obtain ⟨tr3, I3, D3⟩ := imp_of hW0 12 (show shOk Tryd.prog 12 44 = true by kernel_rfl) hf3
  have hc3 : v3.cells.toList = [v3] := by
    obtain ⟨_, _, _, rfl⟩ := okWide_slice Tryd.underlying44 (hval 3 44 v3 rfl rfl)
    rfl
  obtain ⟨bl3, cs3, hl3, hh3⟩ := I3 ((base2 b off ++ bl0).length)
  obtain ⟨lies0, vr0, lay0⟩ := hh0 (base2 b off) (bl3) rfl
  simp only [List.nil_append, List.append_nil, List.append_assoc] at lies0 vr0 lay0
  have hv0 : VR (startRen ((base2 b off ++ (bl0 ++ bl3)))) (.agg cs0.toArray) (.agg vc0) := VR.agg ⟨by simpa [Value.cells] using hl0, fun i a b ha hb => (vr0 i a b (by simpa using ha) (by simpa [Value.cells] using hb)).2⟩
  obtain ⟨sr0, sc0, rfl, rfl, qa0, qb0⟩ := lay_size lay0
  obtain ⟨lies3, vr3, lay3⟩ := hh3 (base2 b off ++ bl0) [] rfl
  simp only [List.nil_append, List.append_nil, List.append_assoc] at lies3 vr3 lay3
  obtain ⟨w3, xs3, rfl, rfl, R3, hr3, hm3⟩ := lay_runes lay3
  have hv3 : VR (startRen ((base2 b off ++ (bl0 ++ bl3)))) w3 v3 := (vr3 0 w3 v3 rfl (by rw [hc3]; rfl)).2
  have walk : Calls Tryd.prog 6 #[.agg vc0, .int .i64 z1, .int .i64 z2, v3] W fun e w' => e = .returned (.bool true) ∧ Below W.heap.size W w' := by
    refine law_calls (xs := (bl0 ++ bl3)) t1 t2 t3 (fun x hx => ?_) (AR.push (AR.push (AR.push (AR.push (AR.nil) hv0) (VR.int _ _)) (VR.int _ _)) hv3) (termTypes_law base2_Gl R3 hr3)
    exact (List.mem_append.1 hx).elim (lies0 x) (fun hx => lies3 x hx)
  refine walk.mono fun e W' ⟨he, hb⟩ => ?_
  subst he
  exact ⟨_, rfl, post_of_below hW' (fun _ _ _ => trodAll_cons_mk (shut_bool Tryd.underlying4 _) trodAll_mk0)
    (fun sp hsp => (trodAll_cons_mk (WideElems.Trod_stays (by kernel_rfl) (by kernel_rfl) (of_decide_eq_true (by kernel_rfl)) h0' (fun x hx => hb.same (hW'.lt x (by simp [hx]))) (fun x hx => hsp x (by simp [hx]))) (trodAll_cons_mk (WideElems.Trod_stays (by kernel_rfl) (by kernel_rfl) (of_decide_eq_true (by kernel_rfl)) h1' (fun x hx => (List.not_mem_nil hx).elim) (fun x hx => (List.not_mem_nil hx).elim)) (trodAll_cons_mk (WideElems.Trod_stays (by kernel_rfl) (by kernel_rfl) (of_decide_eq_true (by kernel_rfl)) h2' (fun x hx => (List.not_mem_nil hx).elim) (fun x hx => (List.not_mem_nil hx).elim)) (trodAll_cons_mk (WideElems.Trod_stays (by kernel_rfl) (by kernel_rfl) (of_decide_eq_true (by kernel_rfl)) h3' (fun x hx => hb.same (hW'.lt x (by simp [hx]))) (fun x hx => hsp x (by simp [hx]))) trodAll_mk0))))) (fun _ _ => rfl) rfl (hb.frame _)⟩
set_option maxRecDepth 100000 in
theorem lifted (os : Os) (started : os.Started) (H : Type) (enc : TypeId × Value → H) (F : Stop.Interp) :
    ReturnsInHanded {} Tryd.checked os 6 .any ((OpenSpec.ofChange Rows.termTypesSpec).preRow enc Tryd.prog Tryd.f6 Rows.termTypesRow.domain false Rows.termTypesRow.laid) (((OpenSpec.ofChange Rows.termTypesSpec).at F).post enc Tryd.prog Tryd.f6 false true false false) := by
  obtain ⟨places, hx⟩ : ∃ places, DataW.whole enc Tryd.prog ((World.doorLaid Tryd.prog 600 os).forCall (fun _ _ => 0) ⟨#[], #[.agg #[.int .i64 0, .int .i64 0], .int .i64 0, .int .i64 0, .slice none 0 0], []⟩).memory Tryd.f6.params.toList Rows.termTypesSpec.vars false (#[.agg #[.int .i64 0, .int .i64 0], .int .i64 0, .int .i64 0, .slice none 0 0] : Array Value).toList 8 = some ([.agg [.lit (.int .i64 0), .lit (.int .i64 0)], .lit (.int .i64 0), .lit (.int .i64 0), .nil], [], places) := ⟨[], by kernel_rfl⟩
  refine returnsInHanded_of_row (C := Tryd.checked) (s := OpenSpec.ofChange Rows.termTypesSpec) own started (by kernel_rfl) Tryd.func6
    (witness_row_atRef (enc := enc) (C := Tryd.checked) false (World.doorLaid Tryd.prog 600 os) #[.agg #[.int .i64 0, .int .i64 0], .int .i64 0, .int .i64 0, .slice none 0 0] rfl (by kernel_rfl) (by kernel_rfl) (by kernel_rfl)
      (OpenSpec.preRow_of_cond 8 hx (by kernel_rfl) (fun k hk => by cases hk) (by kernel_rfl) (laidMet_of_run' 8 (by kernel_rfl) (by kernel_rfl)))) ?_
  intro W base args ds gs before hval hW _ hcond _ hL _ _
  exact contract H enc W base args ds gs before hval hW hL
theorem said : Rows.TermTypesSaid :=
  OpenClaim.holds_of_cond 6 Tryd.f6 rfl rfl rfl rfl rfl rfl rfl ⟨rfl, rfl, rfl, rfl, rfl⟩ rfl rfl rfl rfl rfl (by kernel_rfl) Tryd.func6 (by kernel_rfl)
    (of_decide_eq_true (by kernel_rfl)) (by unfold Func.isWrapper; first | (rw [if_pos (by decide +kernel)]; kernel_rfl) | (rw [if_neg (by decide +kernel)]; exact ⟨rfl, rfl⟩))
    (fun os started H enc _ F => by rw [OpenClaim.pre_eq_preRow]; exact lifted os started H enc F)
theorem plain (f : FuncId) (fn : Func) (hf : Tryd.pinned.checked.prog.funcNamed "inkhorn/inkhornlaw21.TermTypes" = some f) (hfn : Tryd.pinned.checked.prog.funcs[f]? = some fn) :
    false = Tryd.pinned.checked.prog.looks [] ∧ ∀ (j : Nat) t, fn.params[j]? = some t → Tryd.pinned.checked.prog.wantsStandIn t = false := by
  obtain rfl : f = 6 := Option.some.inj ((show Tryd.prog.funcNamed "inkhorn/inkhornlaw21.TermTypes" = some 6 by kernel_rfl).symm.trans hf) |>.symm
  obtain rfl : fn = Tryd.f6 := (Option.some.inj (Tryd.func6.symm.trans hfn)).symm
  refine ⟨by kernel_rfl, fun j t ht => ?_⟩
  rw [Tryd.params6] at ht
  have ht2 : t = 23 ∨ t = 3 ∨ t = 44 := by have := Array.mem_of_getElem? ht; simp at this; omega
  rcases ht2 with rfl | rfl | rfl
  · exact (show Tryd.prog.wantsStandIn 23 = false by kernel_rfl)
  · exact (show Tryd.prog.wantsStandIn 3 = false by kernel_rfl)
  · exact (show Tryd.prog.wantsStandIn 44 = false by kernel_rfl)
end Go.Proofs.YtefpalmihdbmiaaDoor.termTypes
namespace Go.Proofs.YtefpalmihdbmiaaDoor
open Go
theorem termTypes_card : Rows.TermTypesCardSaid :=
  Claim7.holds_tied_plain_at .later [] _ _ _ _ termTypes.said (fun _ h => by cases h) (by kernel_rfl) (fun _ h => by cases h) termTypes_row_tie rfl ⟨rfl, rfl⟩ (by kernel_rfl) rfl termTypes.plain (by kernel_rfl)
#print axioms termTypes_card
end Go.Proofs.YtefpalmihdbmiaaDoor
