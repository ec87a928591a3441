/- TermResizes: what a terminal shows that is given another size between bytes is the document's answer; the examples hold; nothing that was handed in is changed. Conditions: the row's own (the table of ranges as the program's text lays it, tied by the card). -/
import Derived.Test.YtefpalmihdbmiaaDoorZ2
import Derived.Test.YtefpalmihdbmiaaDoorZ7
import Derived.Test.YtefpalmihdbmiaaDoorZ10
set_option linter.unusedSimpArgs false
set_option linter.unusedVariables false
namespace Go.Proofs.YtefpalmihdbmiaaDoor.termResizes
open Go Go.ChangeShapes Go.WideShapes Go.ChangeAt Go.RowKit Go.Proofs.YtefpalmihdbmiaaDoor.Am
theorem own : ownKnob Tryd.prog.godebug = none := by kernel_rfl
theorem contract (H : Type) (enc : TypeId × Value → H) (W : World) (base : Nat) (args : Array Value) (ds gs : List (DataW H)) (before : List MemPlace)
    (hval : ∀ (j : Nat) t v, Tryd.f8.params[j]? = some t → args[j]? = some v → Value.okWide Tryd.prog W .any base t v)
    (hW : DataW.Whole enc Tryd.prog Tryd.f8.params.toList Rows.termResizesSpec.vars false W args.toList ds gs before) (hL : laidMetH Tryd.prog Rows.termResizesRow.laid W) :
    Calls Tryd.prog 8 args W fun e W' => ∃ v, e = .returned v ∧ Rows.termResizesSpec.post enc Tryd.prog Tryd.f8 false true false false W args v W' := by
  have hW' := hW
  obtain ⟨b, off, t1, t2, t3⟩ := table hL
  have hW0 : 0 < W.heap.size := by omega
  obtain ⟨p, q, hA0, hV, rfl, hfz, hnd⟩ := hW
  have hA : DataW.TrodAll enc Tryd.prog W 0 (fun _ => true) true Tryd.f8.params.toList args.toList ds p := hA0
  rw [Tryd.params8] at hA hval
  obtain ⟨v0, vs0, d0, ds0, p0, q0, hargs, rfl, rfl, h0, r0⟩ := trodAll_cons hA
  obtain ⟨v1, vs1, d1, ds1, p1, q1, rfl, rfl, rfl, h1, r1⟩ := trodAll_cons r0
  obtain ⟨v2, vs2, d2, ds2, p2, q2, rfl, rfl, rfl, h2, r2⟩ := trodAll_cons r1
  obtain ⟨v3, vs3, d3, ds3, p3, q3, rfl, rfl, rfl, h3, r3⟩ := trodAll_cons r2
  obtain ⟨rfl, rfl, rfl⟩ := trodAll_nil r3
  obtain rfl : args = #[v0, v1, v2, v3] := by cases args; simp_all
  obtain ⟨rfl, rfl⟩ := trodVars_none hV
  clear hA0
  have h0' := h0
  obtain ⟨fuel0, hf0⟩ := h0
  obtain ⟨tr0, I0, D0⟩ := imp_of hW0 12 (show shOk Tryd.prog 12 23 = true by kernel_rfl) hf0
  obtain ⟨vc0, rfl⟩ : ∃ vc, v0 = .agg vc := by
    obtain ⟨cs, e, _⟩ := hval 0 23 v0 rfl rfl
    exact ⟨cs, e⟩
  obtain ⟨bl0, cs0, hl0, hh0⟩ := I0 ((base2 b off).length)
  have h1' := h1
  obtain ⟨fuel1, hf1⟩ := h1
  obtain ⟨tr1, I1, D1⟩ := imp_of hW0 12 (show shOk Tryd.prog 12 23 = true by kernel_rfl) hf1
  obtain ⟨vc1, rfl⟩ : ∃ vc, v1 = .agg vc := by
    obtain ⟨cs, e, _⟩ := hval 1 23 v1 rfl rfl
    exact ⟨cs, e⟩
  obtain ⟨bl1, cs1, hl1, hh1⟩ := I1 ((base2 b off ++ bl0).length)
  have h2' := h2
  obtain ⟨fuel2, hf2⟩ := h2
  obtain ⟨tr2, I2, D2⟩ := imp_of hW0 12 (show shOk Tryd.prog 12 29 = true by kernel_rfl) hf2
  have hc2 : v2.cells.toList = [v2] := by
    obtain ⟨_, _, _, rfl⟩ := okWide_slice Tryd.underlying29 (hval 2 29 v2 rfl rfl)
    rfl
  obtain ⟨bl2, cs2, hl2, hh2⟩ := I2 ((base2 b off ++ bl0 ++ bl1).length)
  have h3' := h3
  obtain ⟨fuel3, hf3⟩ := h3
  obtain ⟨tr3, I3, D3⟩ := imp_of hW0 12 (show shOk Tryd.prog 12 29 = true by kernel_rfl) hf3
  have hc3 : v3.cells.toList = [v3] := by
    obtain ⟨_, _, _, rfl⟩ := okWide_slice Tryd.underlying29 (hval 3 29 v3 rfl rfl)
    rfl
  obtain ⟨bl3, cs3, hl3, hh3⟩ := I3 ((base2 b off ++ bl0 ++ bl1 ++ bl2).length)
  obtain ⟨lies0, vr0, lay0⟩ := hh0 (base2 b off) (bl1 ++ bl2 ++ bl3) rfl
  simp only [List.nil_append, List.append_nil, List.append_assoc] at lies0 vr0 lay0
  have hv0 : VR (startRen ((base2 b off ++ (bl0 ++ (bl1 ++ (bl2 ++ bl3)))))) (.agg cs0.toArray) (.agg vc0) := VR.agg ⟨by simpa [Value.cells] using hl0, fun i a b ha hb => (vr0 i a b (by simpa using ha) (by simpa [Value.cells] using hb)).2⟩
  obtain ⟨sr0, sc0, rfl, rfl, qa0, qb0⟩ := lay_size lay0
  obtain ⟨lies1, vr1, lay1⟩ := hh1 (base2 b off ++ bl0) (bl2 ++ bl3) rfl
  simp only [List.nil_append, List.append_nil, List.append_assoc] at lies1 vr1 lay1
  have hv1 : VR (startRen ((base2 b off ++ (bl0 ++ (bl1 ++ (bl2 ++ bl3)))))) (.agg cs1.toArray) (.agg vc1) := VR.agg ⟨by simpa [Value.cells] using hl1, fun i a b ha hb => (vr1 i a b (by simpa using ha) (by simpa [Value.cells] using hb)).2⟩
  obtain ⟨sr1, sc1, rfl, rfl, qa1, qb1⟩ := lay_size lay1
  obtain ⟨lies2, vr2, lay2⟩ := hh2 (base2 b off ++ bl0 ++ bl1) (bl3) rfl
  simp only [List.nil_append, List.append_nil, List.append_assoc] at lies2 vr2 lay2
  obtain ⟨w2, xs2, rfl, rfl, R2, hr2, hm2⟩ := lay_bytes lay2
  have hv2 : VR (startRen ((base2 b off ++ (bl0 ++ (bl1 ++ (bl2 ++ bl3)))))) w2 v2 := (vr2 0 w2 v2 rfl (by rw [hc2]; rfl)).2
  obtain ⟨lies3, vr3, lay3⟩ := hh3 (base2 b off ++ bl0 ++ bl1 ++ bl2) [] rfl
  simp only [List.nil_append, List.append_nil, List.append_assoc] at lies3 vr3 lay3
  obtain ⟨w3, xs3, rfl, rfl, R3, hr3, hm3⟩ := lay_bytes lay3
  have hv3 : VR (startRen ((base2 b off ++ (bl0 ++ (bl1 ++ (bl2 ++ bl3)))))) w3 v3 := (vr3 0 w3 v3 rfl (by rw [hc3]; rfl)).2
  have walk : Calls Tryd.prog 8 #[.agg vc0, .agg vc1, v2, v3] W fun e w' => e = .returned (.bool true) ∧ Below W.heap.size W w' := by
    refine law_calls (xs := (bl0 ++ (bl1 ++ (bl2 ++ bl3)))) t1 t2 t3 (fun x hx => ?_) (AR.push (AR.push (AR.push (AR.push (AR.nil) hv0) hv1) hv2) hv3) (termResizes_law base2_Gl R2 R3 hr2 hr3)
    exact (List.mem_append.1 hx).elim (lies0 x) (fun hx => (List.mem_append.1 hx).elim (lies1 x) (fun hx => (List.mem_append.1 hx).elim (lies2 x) (fun hx => lies3 x hx)))
  refine walk.mono fun e W' ⟨he, hb⟩ => ?_
  subst he
  exact ⟨_, rfl, post_of_below hW' (fun _ _ _ => trodAll_cons_mk (shut_bool Tryd.underlying4 _) trodAll_mk0)
    (fun sp hsp => (trodAll_cons_mk (WideElems.Trod_stays (by kernel_rfl) (by kernel_rfl) (of_decide_eq_true (by kernel_rfl)) h0' (fun x hx => hb.same (hW'.lt x (by simp [hx]))) (fun x hx => hsp x (by simp [hx]))) (trodAll_cons_mk (WideElems.Trod_stays (by kernel_rfl) (by kernel_rfl) (of_decide_eq_true (by kernel_rfl)) h1' (fun x hx => hb.same (hW'.lt x (by simp [hx]))) (fun x hx => hsp x (by simp [hx]))) (trodAll_cons_mk (WideElems.Trod_stays (by kernel_rfl) (by kernel_rfl) (of_decide_eq_true (by kernel_rfl)) h2' (fun x hx => hb.same (hW'.lt x (by simp [hx]))) (fun x hx => hsp x (by simp [hx]))) (trodAll_cons_mk (WideElems.Trod_stays (by kernel_rfl) (by kernel_rfl) (of_decide_eq_true (by kernel_rfl)) h3' (fun x hx => hb.same (hW'.lt x (by simp [hx]))) (fun x hx => hsp x (by simp [hx]))) trodAll_mk0))))) (fun _ _ => rfl) rfl (hb.frame _)⟩
set_option maxRecDepth 100000 in
theorem lifted (os : Os) (started : os.Started) (H : Type) (enc : TypeId × Value → H) (F : Stop.Interp) :
    ReturnsInHanded {} Tryd.checked os 8 .any ((OpenSpec.ofChange Rows.termResizesSpec).preRow enc Tryd.prog Tryd.f8 Rows.termResizesRow.domain false Rows.termResizesRow.laid) (((OpenSpec.ofChange Rows.termResizesSpec).at F).post enc Tryd.prog Tryd.f8 false true false false) := by
  obtain ⟨places, hx⟩ : ∃ places, DataW.whole enc Tryd.prog ((World.doorLaid Tryd.prog 600 os).forCall (fun _ _ => 0) ⟨#[], #[.agg #[.int .i64 0, .int .i64 0], .agg #[.int .i64 0, .int .i64 0], .slice none 0 0, .slice none 0 0], []⟩).memory Tryd.f8.params.toList Rows.termResizesSpec.vars false (#[.agg #[.int .i64 0, .int .i64 0], .agg #[.int .i64 0, .int .i64 0], .slice none 0 0, .slice none 0 0] : Array Value).toList 8 = some ([.agg [.lit (.int .i64 0), .lit (.int .i64 0)], .agg [.lit (.int .i64 0), .lit (.int .i64 0)], .nil, .nil], [], places) := ⟨[], by kernel_rfl⟩
  refine returnsInHanded_of_row (C := Tryd.checked) (s := OpenSpec.ofChange Rows.termResizesSpec) own started (by kernel_rfl) Tryd.func8
    (witness_row_atRef (enc := enc) (C := Tryd.checked) false (World.doorLaid Tryd.prog 600 os) #[.agg #[.int .i64 0, .int .i64 0], .agg #[.int .i64 0, .int .i64 0], .slice none 0 0, .slice none 0 0] rfl (by kernel_rfl) (by kernel_rfl) (by kernel_rfl)
      (OpenSpec.preRow_of_cond 8 hx (by kernel_rfl) (fun k hk => by cases hk) (by kernel_rfl) (laidMet_of_run' 8 (by kernel_rfl) (by kernel_rfl)))) ?_
  intro W base args ds gs before hval hW _ hcond _ hL _ _
  exact contract H enc W base args ds gs before hval hW hL
theorem said : Rows.TermResizesSaid :=
  OpenClaim.holds_of_cond 8 Tryd.f8 rfl rfl rfl rfl rfl rfl rfl ⟨rfl, rfl, rfl, rfl, rfl⟩ rfl rfl rfl rfl rfl (by kernel_rfl) Tryd.func8 (by kernel_rfl)
    (of_decide_eq_true (by kernel_rfl)) (by unfold Func.isWrapper; first | (rw [if_pos (by decide +kernel)]; kernel_rfl) | (rw [if_neg (by decide +kernel)]; exact ⟨rfl, rfl⟩))
    (fun os started H enc _ F => by rw [OpenClaim.pre_eq_preRow]; exact lifted os started H enc F)
theorem plain (f : FuncId) (fn : Func) (hf : Tryd.pinned.checked.prog.funcNamed "inkhorn/inkhornlaw21.TermResizes" = some f) (hfn : Tryd.pinned.checked.prog.funcs[f]? = some fn) :
    false = Tryd.pinned.checked.prog.looks [] ∧ ∀ (j : Nat) t, fn.params[j]? = some t → Tryd.pinned.checked.prog.wantsStandIn t = false := by
  obtain rfl : f = 8 := Option.some.inj ((show Tryd.prog.funcNamed "inkhorn/inkhornlaw21.TermResizes" = some 8 by kernel_rfl).symm.trans hf) |>.symm
  obtain rfl : fn = Tryd.f8 := (Option.some.inj (Tryd.func8.symm.trans hfn)).symm
  refine ⟨by kernel_rfl, fun j t ht => ?_⟩
  rw [Tryd.params8] at ht
  have ht2 : t = 23 ∨ t = 29 := by have := Array.mem_of_getElem? ht; simp at this; omega
  rcases ht2 with rfl | rfl
  · exact (show Tryd.prog.wantsStandIn 23 = false by kernel_rfl)
  · exact (show Tryd.prog.wantsStandIn 29 = false by kernel_rfl)
end Go.Proofs.YtefpalmihdbmiaaDoor.termResizes
namespace Go.Proofs.YtefpalmihdbmiaaDoor
open Go
theorem termResizes_card : Rows.TermResizesCardSaid :=
  Claim7.holds_tied_plain_at .later [] _ _ _ _ termResizes.said (fun _ h => by cases h) (by kernel_rfl) (fun _ h => by cases h) termResizes_row_tie rfl ⟨rfl, rfl⟩ (by kernel_rfl) rfl termResizes.plain (by kernel_rfl)
#print axioms termResizes_card
end Go.Proofs.YtefpalmihdbmiaaDoor
