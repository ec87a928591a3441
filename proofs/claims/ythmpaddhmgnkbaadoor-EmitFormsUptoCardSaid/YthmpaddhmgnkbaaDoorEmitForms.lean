/- EmitForms: the bytes are whole sequences of those that may be, and whole runes that are shown as themselves; the example holds; nothing that was handed in is changed. Conditions: the row's own (package variables as the program's text lays them, tied by the card); what is handed in is of bulk at most 1048576 -/
import Derived.Test.YthmpaddhmgnkbaaDoorZ15
import Derived.Test.YthmpaddhmgnkbaaDoorZ22
import Derived.Test.YthmpaddhmgnkbaaDoorZ25
set_option linter.unusedSimpArgs false
set_option linter.unusedVariables false
set_option maxRecDepth 100000
namespace Go.Proofs.YthmpaddhmgnkbaaDoor.emitForms
open Go Go.ChangeShapes Go.WideShapes Go.ChangeAt Go.RowKit Go.Proofs.YthmpaddhmgnkbaaDoor.Am
theorem own : ownKnob Tryd.prog.godebug = none := by kernel_rfl
theorem contract (H : Type) (enc : TypeId × Value → H) (W : World) (base : Nat) (args : Array Value) (ds gs : List (DataW H)) (before : List MemPlace)
    (hval : ∀ (j : Nat) t v, Tryd.f5.params[j]? = some t → args[j]? = some v → Value.okWide Tryd.prog W .any base t v)
    (hW : DataW.Whole enc Tryd.prog Tryd.f5.params.toList Rows.emitFormsSpec.vars false W args.toList ds gs before) (hL : laidMetH Tryd.prog Rows.emitFormsUptoRow.laid W) (hsh : W.ShapedOpen Tryd.prog) (hk : Rows.uptoSmall H (ds ++ gs) = true) :
    Calls Tryd.prog 5 args W fun e W' => ∃ v, e = .returned v ∧ Rows.emitFormsSpec.post enc Tryd.prog Tryd.f5 false true false false W args v W' := by
  have hW' := hW
  obtain ⟨b, off, t1, t2, t3⟩ := table hL
  have hWg := heap_glob hsh
  have hW0 : 0 < W.heap.size := by omega
  obtain ⟨p, q, hA0, hV, rfl, hfz, hnd⟩ := hW
  have hA : DataW.TrodAll enc Tryd.prog W 0 (fun _ => true) true Tryd.f5.params.toList args.toList ds p := hA0
  rw [Tryd.params5] at hA hval
  obtain ⟨v0, vs0, d0, ds0, p0, q0, hargs, rfl, rfl, h0, r0⟩ := trodAll_cons hA
  obtain ⟨v1, vs1, d1, ds1, p1, q1, rfl, rfl, rfl, h1, r1⟩ := trodAll_cons r0
  obtain ⟨rfl, rfl, rfl⟩ := trodAll_nil r1
  obtain rfl : args = #[v0, v1] := by cases args; simp_all
  obtain ⟨rfl, rfl⟩ := trodVars_none hV
  clear hA0
  have h0' := h0
  obtain ⟨fuel0, hf0⟩ := h0
  obtain ⟨tr0, I0, D0⟩ := imp_of hW0 12 (show shOk Tryd.prog 12 24 = true by kernel_rfl) hf0
  obtain ⟨vc0, rfl⟩ : ∃ vc, v0 = .agg vc := by
    obtain ⟨cs, e, _⟩ := hval 0 24 v0 rfl rfl
    exact ⟨cs, e⟩
  obtain ⟨bl0, cs0, hl0, hh0⟩ := I0 ((base2 b off).length)
  have h1' := h1
  obtain ⟨fuel1, hf1⟩ := h1
  obtain ⟨tr1, I1, D1⟩ := imp_of hW0 12 (show shOk Tryd.prog 12 24 = true by kernel_rfl) hf1
  obtain ⟨vc1, rfl⟩ : ∃ vc, v1 = .agg vc := by
    obtain ⟨cs, e, _⟩ := hval 1 24 v1 rfl rfl
    exact ⟨cs, e⟩
  obtain ⟨bl1, cs1, hl1, hh1⟩ := I1 ((base2 b off ++ bl0).length)
  obtain ⟨lies0, vr0, lay0⟩ := hh0 (base2 b off) (bl1) rfl
  simp only [List.nil_append, List.append_nil, List.append_assoc] at lies0 vr0 lay0
  have D0' := D0
  have hv0 : VR (startRen ((base2 b off ++ (bl0 ++ bl1)))) (.agg cs0.toArray) (.agg vc0) := VR.agg ⟨by simpa [Value.cells] using hl0, fun i a b ha hb => (vr0 i a b (by simpa using ha) (by simpa [Value.cells] using hb)).2⟩
  obtain ⟨cv0, g0, rfl, rfl, A0, R0⟩ := lay_grid lay0
  obtain ⟨lies1, vr1, lay1⟩ := hh1 (base2 b off ++ bl0) [] rfl
  simp only [List.nil_append, List.append_nil, List.append_assoc] at lies1 vr1 lay1
  have D1' := D1
  have hv1 : VR (startRen ((base2 b off ++ (bl0 ++ bl1)))) (.agg cs1.toArray) (.agg vc1) := VR.agg ⟨by simpa [Value.cells] using hl1, fun i a b ha hb => (vr1 i a b (by simpa using ha) (by simpa [Value.cells] using hb)).2⟩
  obtain ⟨cv1, g1, rfl, rfl, A1, R1⟩ := lay_grid lay1
  have walk : Calls Tryd.prog 5 #[.agg vc0, .agg vc1] W fun e w' => e = .returned (.bool true) ∧ Below W.heap.size W w' := by
    refine law_calls (xs := (bl0 ++ bl1)) hWg t1 t2 t3 (pow10_of hL) (fun x hx => ?_) (AR.push (AR.push (AR.nil) hv0) hv1) (emitForms_law A0 A1 (small_grid hk (by simp) D0' R0).1 (small_grid hk (by simp) D1' R1).1 base2_Gl base2_Gt (by have := (small_grid hk (by simp) D0' R0).2; omega) (by have := (small_grid hk (by simp) D1' R1).2; omega))
    exact (List.mem_append.1 hx).elim (lies0 x) (fun hx => lies1 x hx)
  refine walk.mono fun e W' ⟨he, hb⟩ => ?_
  subst he
  exact ⟨_, rfl, post_of_below hW' (fun _ _ _ => trodAll_cons_mk (shut_bool Tryd.underlying4 _) trodAll_mk0)
    (fun sp hsp => (trodAll_cons_mk (WideElems.Trod_stays (by kernel_rfl) (by kernel_rfl) (of_decide_eq_true (by kernel_rfl)) h0' (fun x hx => hb.same (hW'.lt x (by simp [hx]))) (fun x hx => hsp x (by simp [hx]))) (trodAll_cons_mk (WideElems.Trod_stays (by kernel_rfl) (by kernel_rfl) (of_decide_eq_true (by kernel_rfl)) h1' (fun x hx => hb.same (hW'.lt x (by simp [hx]))) (fun x hx => hsp x (by simp [hx]))) trodAll_mk0))) (fun _ _ => rfl) rfl (hb.frame _)⟩
set_option maxRecDepth 100000 in
theorem lifted (os : Os) (started : os.Started) (H : Type) (enc : TypeId × Value → H) (F : Stop.Interp) :
    ReturnsInHanded {} Tryd.checked os 5 .any ((Rows.OpenSpec.upto Rows.emitFormsSpec).preRow enc Tryd.prog Tryd.f5 Rows.emitFormsUptoRow.domain false Rows.emitFormsUptoRow.laid) (((Rows.OpenSpec.upto Rows.emitFormsSpec).at F).post enc Tryd.prog Tryd.f5 false true false false) := by
  obtain ⟨places, hx⟩ : ∃ places, DataW.whole enc Tryd.prog ((World.doorLaid Tryd.prog 600 os).forCall (fun _ _ => 0) ⟨#[], #[.agg #[.int .i64 0, .int .i64 0, .slice none 0 0, .int .i64 0, .int .i64 0], .agg #[.int .i64 0, .int .i64 0, .slice none 0 0, .int .i64 0, .int .i64 0]], []⟩).memory Tryd.f5.params.toList Rows.emitFormsSpec.vars false (#[.agg #[.int .i64 0, .int .i64 0, .slice none 0 0, .int .i64 0, .int .i64 0], .agg #[.int .i64 0, .int .i64 0, .slice none 0 0, .int .i64 0, .int .i64 0]] : Array Value).toList 8 = some ([.agg [.lit (.int .i64 0), .lit (.int .i64 0), .nil, .lit (.int .i64 0), .lit (.int .i64 0)], .agg [.lit (.int .i64 0), .lit (.int .i64 0), .nil, .lit (.int .i64 0), .lit (.int .i64 0)]], [], places) := ⟨[], by kernel_rfl⟩
  refine returnsInHanded_of_row (C := Tryd.checked) (s := Rows.OpenSpec.upto Rows.emitFormsSpec) own started (by kernel_rfl) Tryd.func5
    (witness_row_atRef (enc := enc) (C := Tryd.checked) false (World.doorLaid Tryd.prog 600 os) #[.agg #[.int .i64 0, .int .i64 0, .slice none 0 0, .int .i64 0, .int .i64 0], .agg #[.int .i64 0, .int .i64 0, .slice none 0 0, .int .i64 0, .int .i64 0]] rfl (by kernel_rfl) (by kernel_rfl) (by kernel_rfl)
      (OpenSpec.preRow_of_cond 8 hx (by kernel_rfl) (fun k hk => by cases hk; kernel_rfl) (by kernel_rfl) (laidMet_of_run' 8 (by kernel_rfl) (by kernel_rfl)))) ?_
  intro W base args ds gs before hval hW _ hcond _ hL hsh _
  exact contract H enc W base args ds gs before hval hW hL hsh (hcond _ rfl)
theorem said : Rows.EmitFormsUptoSaid :=
  OpenClaim.holds_of_cond 5 Tryd.f5 rfl rfl rfl rfl rfl rfl rfl ⟨rfl, rfl, rfl, rfl, rfl⟩ rfl rfl rfl rfl rfl (by kernel_rfl) Tryd.func5 (by kernel_rfl)
    (of_decide_eq_true (by kernel_rfl)) (by unfold Func.isWrapper; first | (rw [if_pos (by decide +kernel)]; kernel_rfl) | (rw [if_neg (by decide +kernel)]; exact ⟨rfl, rfl⟩))
    (fun os started H enc _ F => by rw [OpenClaim.pre_eq_preRow]; exact lifted os started H enc F)
theorem plain (f : FuncId) (fn : Func) (hf : Tryd.pinned.checked.prog.funcNamed "inkhorn/inkhornlaw22.EmitForms" = some f) (hfn : Tryd.pinned.checked.prog.funcs[f]? = some fn) :
    true = Tryd.pinned.checked.prog.looks [] ∧ ∀ (j : Nat) t, fn.params[j]? = some t → Tryd.pinned.checked.prog.wantsStandIn t = false := by
  obtain rfl : f = 5 := Option.some.inj ((show Tryd.prog.funcNamed "inkhorn/inkhornlaw22.EmitForms" = some 5 by kernel_rfl).symm.trans hf) |>.symm
  obtain rfl : fn = Tryd.f5 := (Option.some.inj (Tryd.func5.symm.trans hfn)).symm
  refine ⟨by kernel_rfl, fun j t ht => ?_⟩
  rw [Tryd.params5] at ht
  obtain rfl : t = 24 := by simpa using Array.mem_of_getElem? ht
  exact (show Tryd.prog.wantsStandIn 24 = false by kernel_rfl)
end Go.Proofs.YthmpaddhmgnkbaaDoor.emitForms
namespace Go.Proofs.YthmpaddhmgnkbaaDoor
open Go
theorem emitForms_card : Rows.EmitFormsUptoCardSaid :=
  Claim7.holds_tied_plain_at .later [] _ _ _ _ emitForms.said (fun _ h => by cases h) (by kernel_rfl) (fun _ h => by cases h) emitFormsUpto_row_tie rfl ⟨rfl, rfl⟩ (by kernel_rfl) rfl emitForms.plain (by kernel_rfl)
#print axioms emitForms_card
end Go.Proofs.YthmpaddhmgnkbaaDoor
