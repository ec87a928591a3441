/- FilesNone: files that are none answer errors; the examples hold; nothing that was handed in is changed. Conditions: the row's own (package variables as the program's text lays them, tied by the card; what is handed in is of bulk at most 1048576). -/
import Derived.Test.YtiebaefhlacekaaDoorZ7
import Derived.Test.YtiebaefhlacekaaDoorZ10
import Derived.Test.YtiebaefhlacekaaDoorZ12
set_option linter.unusedSimpArgs false
set_option linter.unusedVariables false
set_option maxRecDepth 100000
namespace Go.Proofs.YtiebaefhlacekaaDoor.filesNone
open Go Go.ChangeShapes Go.WideShapes Go.ChangeAt Go.RowKit Go.Proofs.YtiebaefhlacekaaDoor.Am
theorem own : ownKnob Tryd.prog.godebug = none := by kernel_rfl
theorem contract (H : Type) (enc : TypeId × Value → H) (W : World) (base : Nat) (args : Array Value) (ds gs : List (DataW H)) (before : List MemPlace)
    (hval : ∀ (j : Nat) t v, Tryd.f3.params[j]? = some t → args[j]? = some v → Value.okWide Tryd.prog W .any base t v)
    (hW : DataW.Whole enc Tryd.prog Tryd.f3.params.toList Rows.filesNoneSpec.vars false W args.toList ds gs before) (hL : laidMetH Tryd.prog Rows.filesNoneUptoRow.laid W) (hsh : W.ShapedOpen Tryd.prog) (hk : Rows.uptoSmall H (ds ++ gs) = true) :
    Calls Tryd.prog 3 args W fun e W' => ∃ v, e = .returned v ∧ Rows.filesNoneSpec.post enc Tryd.prog Tryd.f3 false true false false W args v W' := by
  have hW' := hW
  have hWg := heap_glob hsh
  have hW0 : 0 < W.heap.size := by omega
  obtain ⟨p, q, hA0, hV, rfl, hfz, hnd⟩ := hW
  have hA : DataW.TrodAll enc Tryd.prog W 0 (fun _ => true) true Tryd.f3.params.toList args.toList ds p := hA0
  rw [Tryd.params3] at hA hval
  obtain ⟨v0, vs0, d0, ds0, p0, q0, hargs, rfl, rfl, h0, r0⟩ := trodAll_cons hA
  obtain ⟨rfl, rfl, rfl⟩ := trodAll_nil r0
  obtain rfl : args = #[v0] := by cases args; simp_all
  obtain ⟨rfl, rfl⟩ := trodVars_none hV
  clear hA0
  have h0' := h0
  obtain ⟨fuel0, hf0⟩ := h0
  obtain ⟨tr0, I0, D0⟩ := imp_of hW0 12 (show shOk Tryd.prog 12 25 = true by kernel_rfl) hf0
  obtain ⟨vc0, rfl⟩ : ∃ vc, v0 = .agg vc := by
    obtain ⟨cs, e, _⟩ := hval 0 25 v0 rfl rfl
    exact ⟨cs, e⟩
  obtain ⟨bl0, cs0, hl0, hh0⟩ := I0 ((base0).length)
  obtain ⟨lies0, vr0, lay0⟩ := hh0 (base0) [] rfl
  simp only [List.nil_append, List.append_nil, List.append_assoc] at lies0 vr0 lay0
  have D0' := D0
  have hv0 : VR (startRen ((base0 ++ bl0))) (.agg cs0.toArray) (.agg vc0) := VR.agg ⟨by simpa [Value.cells] using hl0, fun i a b ha hb => (vr0 i a b (by simpa using ha) (by simpa [Value.cells] using hb)).2⟩
  obtain ⟨k0, n0, s0, lv0, ls0, bv0, xs0, rfl, rfl, R0, hr0, Rb0⟩ := lay_deed lay0
  have walk : Calls Tryd.prog 3 #[.agg vc0] W fun e w' => e = .returned (.bool true) ∧ Below W.heap.size W w' := by
    refine law_callsG (xs := bl0) hWg (fun x hx => ?_) (AR.push (AR.nil) hv0) (filesNone_law R0 hr0 (encLs_bd (deed_bd (small_tree hk (by simp) D0'))) (Nat.le_trans (deed_bd (small_tree hk (by simp) D0')).2 (by decide)) Rb0)
    exact lies0 x hx
  refine walk.mono fun e W' ⟨he, hb⟩ => ?_
  subst he
  exact ⟨_, rfl, post_of_below hW' (fun _ _ _ => trodAll_cons_mk (shut_bool Tryd.underlying4 _) trodAll_mk0)
    (fun sp hsp => (trodAll_cons_mk (WideElems.Trod_stays (by kernel_rfl) (by kernel_rfl) (of_decide_eq_true (by kernel_rfl)) h0' (fun x hx => hb.same (hW'.lt x (by simp [hx]))) (fun x hx => hsp x (by simp [hx]))) trodAll_mk0)) (fun _ _ => rfl) rfl (hb.frame _)⟩
set_option maxRecDepth 100000 in
theorem lifted (os : Os) (started : os.Started) (H : Type) (enc : TypeId × Value → H) (F : Stop.Interp) :
    ReturnsInHanded {} Tryd.checked os 3 .any ((Rows.OpenSpec.upto Rows.filesNoneSpec).preRow enc Tryd.prog Tryd.f3 Rows.filesNoneUptoRow.domain false Rows.filesNoneUptoRow.laid) (((Rows.OpenSpec.upto Rows.filesNoneSpec).at F).post enc Tryd.prog Tryd.f3 false true false false) := by
  obtain ⟨places, hx⟩ : ∃ places, DataW.whole enc Tryd.prog ((World.laidAll Tryd.prog os Rows.filesNoneUptoRow.laid).forCall (fun _ _ => 0) ⟨#[], #[.agg #[.int .i64 0, .int .i64 0, .string ByteArray.empty, .slice none 0 0, .slice none 0 0]], []⟩).memory Tryd.f3.params.toList Rows.filesNoneSpec.vars false (#[.agg #[.int .i64 0, .int .i64 0, .string ByteArray.empty, .slice none 0 0, .slice none 0 0]] : Array Value).toList 8 = some ([.agg [.lit (.int .i64 0), .lit (.int .i64 0), .lit (.string []), .nil, .nil]], [], places) := ⟨[], by kernel_rfl⟩
  refine returnsInHanded_of_row (C := Tryd.checked) (s := Rows.OpenSpec.upto Rows.filesNoneSpec) own started (by kernel_rfl) Tryd.func3
    (witness_row_atRef (enc := enc) (C := Tryd.checked) false (World.laidAll Tryd.prog os Rows.filesNoneUptoRow.laid) #[.agg #[.int .i64 0, .int .i64 0, .string ByteArray.empty, .slice none 0 0, .slice none 0 0]] (World.laidAll_os _ _ _) (by kernel_rfl) (by kernel_rfl) (by kernel_rfl)
      (OpenSpec.preRow_of_cond 8 hx (by kernel_rfl) (fun k hk => by cases hk; kernel_rfl) (by kernel_rfl) (laidMet_laidAll _ (by kernel_rfl) (by kernel_rfl)))) ?_
  intro W base args ds gs before hval hW _ hcond _ hL hsh _
  exact contract H enc W base args ds gs before hval hW hL hsh (hcond _ rfl)
theorem said : Rows.FilesNoneUptoSaid :=
  OpenClaim.holds_of_cond 3 Tryd.f3 rfl rfl rfl rfl rfl rfl rfl ⟨rfl, rfl, rfl, rfl, rfl⟩ rfl rfl rfl rfl rfl (by kernel_rfl) Tryd.func3 (by kernel_rfl)
    (of_decide_eq_true (by kernel_rfl)) (by unfold Func.isWrapper; first | (rw [if_pos (by decide +kernel)]; kernel_rfl) | (rw [if_neg (by decide +kernel)]; exact ⟨rfl, rfl⟩))
    (fun os started H enc _ F => by rw [OpenClaim.pre_eq_preRow]; exact lifted os started H enc F)
theorem plain (f : FuncId) (fn : Func) (hf : Tryd.pinned.checked.prog.funcNamed "inkhorn/inkhornlaw16.FilesNone" = some f) (hfn : Tryd.pinned.checked.prog.funcs[f]? = some fn) :
    true = Tryd.pinned.checked.prog.looks [] ∧ ∀ (j : Nat) t, fn.params[j]? = some t → Tryd.pinned.checked.prog.wantsStandIn t = false := by
  obtain rfl : f = 3 := Option.some.inj ((show Tryd.prog.funcNamed "inkhorn/inkhornlaw16.FilesNone" = some 3 by kernel_rfl).symm.trans hf) |>.symm
  obtain rfl : fn = Tryd.f3 := (Option.some.inj (Tryd.func3.symm.trans hfn)).symm
  refine ⟨by kernel_rfl, fun j t ht => ?_⟩
  rw [Tryd.params3] at ht
  obtain rfl : t = 25 := by simpa using Array.mem_of_getElem? ht
  exact (show Tryd.prog.wantsStandIn 25 = false by kernel_rfl)
end Go.Proofs.YtiebaefhlacekaaDoor.filesNone
namespace Go.Proofs.YtiebaefhlacekaaDoor
open Go
theorem filesNone_card : Rows.FilesNoneUptoCardSaid :=
  Claim7.holds_tied_plain_at .later [] _ _ _ _ filesNone.said (fun _ h => by cases h) (by kernel_rfl) (fun _ h => by cases h) filesNoneUpto_row_tie rfl ⟨rfl, rfl⟩ (by kernel_rfl) rfl filesNone.plain (by kernel_rfl)
#print axioms filesNone_card
end Go.Proofs.YtiebaefhlacekaaDoor
