/- FilesBack: lines that are written are read as they were, what is no scalar as FFFD; the examples hold; nothing that was handed in is changed. Conditions: the row's own (package variables as the program's text lays them, tied by the card; what is handed in is of bulk at most 1048576). -/
import Derived.Test.YtiebaefhlacekaaDoorZ7
import Derived.Test.YtiebaefhlacekaaDoorZ10
import Derived.Test.YtiebaefhlacekaaDoorZ12
set_option linter.unusedSimpArgs false
set_option linter.unusedVariables false
set_option maxRecDepth 100000
namespace Go.Proofs.YtiebaefhlacekaaDoor.filesBack
open Go Go.ChangeShapes Go.WideShapes Go.ChangeAt Go.RowKit Go.Proofs.YtiebaefhlacekaaDoor.Am
theorem own : ownKnob Tryd.prog.godebug = none := by kernel_rfl
theorem contract (H : Type) (enc : TypeId × Value → H) (W : World) (base : Nat) (args : Array Value) (ds gs : List (DataW H)) (before : List MemPlace)
    (hval : ∀ (j : Nat) t v, Tryd.f5.params[j]? = some t → args[j]? = some v → Value.okWide Tryd.prog W .any base t v)
    (hW : DataW.Whole enc Tryd.prog Tryd.f5.params.toList Rows.filesBackSpec.vars false W args.toList ds gs before) (hL : laidMetH Tryd.prog Rows.filesBackUptoRow.laid W) (hsh : W.ShapedOpen Tryd.prog) (hk : Rows.uptoSmall H (ds ++ gs) = true) :
    Calls Tryd.prog 5 args W fun e W' => ∃ v, e = .returned v ∧ Rows.filesBackSpec.post enc Tryd.prog Tryd.f5 false true false false W args v W' := by
  have hW' := hW
  have hWg := heap_glob hsh
  have hW0 : 0 < W.heap.size := by omega
  obtain ⟨p, q, hA0, hV, rfl, hfz, hnd⟩ := hW
  have hA : DataW.TrodAll enc Tryd.prog W 0 (fun _ => true) true Tryd.f5.params.toList args.toList ds p := hA0
  rw [Tryd.params5] at hA hval
  obtain ⟨v0, vs0, d0, ds0, p0, q0, hargs, rfl, rfl, h0, r0⟩ := trodAll_cons hA
  obtain ⟨v1, vs1, d1, ds1, p1, q1, rfl, rfl, rfl, h1, r1⟩ := trodAll_cons r0
  obtain ⟨rfl, rfl, rfl⟩ := trodAll_nil r1
  obtain rfl : args = #[v0, v1] := by cases args; simp_all
  obtain ⟨rfl, rfl⟩ := trodVars_none hV
  clear hA0
  have h0' := h0
  obtain ⟨fuel0, hf0⟩ := h0
  obtain ⟨tr0, I0, D0⟩ := imp_of hW0 12 (show shOk Tryd.prog 12 22 = true by kernel_rfl) hf0
  have hc0 : v0.cells.toList = [v0] := by
    obtain ⟨_, _, _, rfl⟩ := okWide_slice Tryd.underlying22 (hval 0 22 v0 rfl rfl)
    rfl
  obtain ⟨bl0, cs0, hl0, hh0⟩ := I0 ((base0).length)
  have h1' := h1
  obtain ⟨fuel1, hf1⟩ := h1
  obtain ⟨tr1, I1, D1⟩ := imp_of hW0 12 (show shOk Tryd.prog 12 9 = true by kernel_rfl) hf1
  have hc1 : v1.cells.toList = [v1] := by
    obtain ⟨_, rfl⟩ := okWide_string Tryd.underlying9 (hval 1 9 v1 rfl rfl)
    rfl
  obtain ⟨bl1, cs1, hl1, hh1⟩ := I1 ((base0 ++ bl0).length)
  obtain ⟨lies0, vr0, lay0⟩ := hh0 (base0) (bl1) rfl
  simp only [List.nil_append, List.append_nil, List.append_assoc] at lies0 vr0 lay0
  obtain ⟨w0, ls0, rfl, rfl, R0, hr0⟩ := lay_text lay0
  have D0' := D0
  have hv0 : VR (startRen ((base0 ++ (bl0 ++ bl1)))) w0 v0 := (vr0 0 w0 v0 rfl (by rw [hc0]; rfl)).2
  obtain ⟨lies1, vr1, lay1⟩ := hh1 (base0 ++ bl0) [] rfl
  simp only [List.nil_append, List.append_nil, List.append_assoc] at lies1 vr1 lay1
  obtain ⟨s1, rfl, rfl⟩ := lay_name lay1
  have D1' := D1
  have hv1 : VR (startRen ((base0 ++ (bl0 ++ bl1)))) (.string s1) v1 := (vr1 0 (.string s1) v1 rfl (by rw [hc1]; rfl)).2
  have walk : Calls Tryd.prog 5 #[v0, v1] W fun e w' => e = .returned (.bool true) ∧ Below W.heap.size W w' := by
    refine law_callsG (xs := (bl0 ++ bl1)) hWg (fun x hx => ?_) (AR.push (AR.push (AR.nil) hv0) hv1) (filesBack_law R0 hr0 (text_bd (small_tree hk (by simp) D0')) (name_bd (small_tree hk (by simp) D1')))
    exact (List.mem_append.1 hx).elim (lies0 x) (fun hx => lies1 x hx)
  refine walk.mono fun e W' ⟨he, hb⟩ => ?_
  subst he
  exact ⟨_, rfl, post_of_below hW' (fun _ _ _ => trodAll_cons_mk (shut_bool Tryd.underlying4 _) trodAll_mk0)
    (fun sp hsp => (trodAll_cons_mk (WideElems.Trod_stays (by kernel_rfl) (by kernel_rfl) (of_decide_eq_true (by kernel_rfl)) h0' (fun x hx => hb.same (hW'.lt x (by simp [hx]))) (fun x hx => hsp x (by simp [hx]))) (trodAll_cons_mk (WideElems.Trod_stays (by kernel_rfl) (by kernel_rfl) (of_decide_eq_true (by kernel_rfl)) h1' (fun x hx => hb.same (hW'.lt x (by simp [hx]))) (fun x hx => hsp x (by simp [hx]))) trodAll_mk0))) (fun _ _ => rfl) rfl (hb.frame _)⟩
set_option maxRecDepth 100000 in
theorem lifted (os : Os) (started : os.Started) (H : Type) (enc : TypeId × Value → H) (F : Stop.Interp) :
    ReturnsInHanded {} Tryd.checked os 5 .any ((Rows.OpenSpec.upto Rows.filesBackSpec).preRow enc Tryd.prog Tryd.f5 Rows.filesBackUptoRow.domain false Rows.filesBackUptoRow.laid) (((Rows.OpenSpec.upto Rows.filesBackSpec).at F).post enc Tryd.prog Tryd.f5 false true false false) := by
  obtain ⟨places, hx⟩ : ∃ places, DataW.whole enc Tryd.prog ((World.laidAll Tryd.prog os Rows.filesBackUptoRow.laid).forCall (fun _ _ => 0) ⟨#[], #[.slice none 0 0, .string ByteArray.empty], []⟩).memory Tryd.f5.params.toList Rows.filesBackSpec.vars false (#[.slice none 0 0, .string ByteArray.empty] : Array Value).toList 8 = some ([.nil, .lit (.string [])], [], places) := ⟨[], by kernel_rfl⟩
  refine returnsInHanded_of_row (C := Tryd.checked) (s := Rows.OpenSpec.upto Rows.filesBackSpec) own started (by kernel_rfl) Tryd.func5
    (witness_row_atRef (enc := enc) (C := Tryd.checked) false (World.laidAll Tryd.prog os Rows.filesBackUptoRow.laid) #[.slice none 0 0, .string ByteArray.empty] (World.laidAll_os _ _ _) (by kernel_rfl) (by kernel_rfl) (by kernel_rfl)
      (OpenSpec.preRow_of_cond 8 hx (by kernel_rfl) (fun k hk => by cases hk; kernel_rfl) (by kernel_rfl) (laidMet_laidAll _ (by kernel_rfl) (by kernel_rfl)))) ?_
  intro W base args ds gs before hval hW _ hcond _ hL hsh _
  exact contract H enc W base args ds gs before hval hW hL hsh (hcond _ rfl)
theorem said : Rows.FilesBackUptoSaid :=
  OpenClaim.holds_of_cond 5 Tryd.f5 rfl rfl rfl rfl rfl rfl rfl ⟨rfl, rfl, rfl, rfl, rfl⟩ rfl rfl rfl rfl rfl (by kernel_rfl) Tryd.func5 (by kernel_rfl)
    (of_decide_eq_true (by kernel_rfl)) (by unfold Func.isWrapper; first | (rw [if_pos (by decide +kernel)]; kernel_rfl) | (rw [if_neg (by decide +kernel)]; exact ⟨rfl, rfl⟩))
    (fun os started H enc _ F => by rw [OpenClaim.pre_eq_preRow]; exact lifted os started H enc F)
theorem plain (f : FuncId) (fn : Func) (hf : Tryd.pinned.checked.prog.funcNamed "inkhorn/inkhornlaw16.FilesBack" = some f) (hfn : Tryd.pinned.checked.prog.funcs[f]? = some fn) :
    true = Tryd.pinned.checked.prog.looks [] ∧ ∀ (j : Nat) t, fn.params[j]? = some t → Tryd.pinned.checked.prog.wantsStandIn t = false := by
  obtain rfl : f = 5 := Option.some.inj ((show Tryd.prog.funcNamed "inkhorn/inkhornlaw16.FilesBack" = some 5 by kernel_rfl).symm.trans hf) |>.symm
  obtain rfl : fn = Tryd.f5 := (Option.some.inj (Tryd.func5.symm.trans hfn)).symm
  refine ⟨by kernel_rfl, fun j t ht => ?_⟩
  rw [Tryd.params5] at ht
  have ht2 : t = 22 ∨ t = 9 := by have := Array.mem_of_getElem? ht; simp at this; omega
  rcases ht2 with rfl | rfl
  · exact (show Tryd.prog.wantsStandIn 22 = false by kernel_rfl)
  · exact (show Tryd.prog.wantsStandIn 9 = false by kernel_rfl)
end Go.Proofs.YtiebaefhlacekaaDoor.filesBack
namespace Go.Proofs.YtiebaefhlacekaaDoor
open Go
theorem filesBack_card : Rows.FilesBackUptoCardSaid :=
  Claim7.holds_tied_plain_at .later [] _ _ _ _ filesBack.said (fun _ h => by cases h) (by kernel_rfl) (fun _ h => by cases h) filesBackUpto_row_tie rfl ⟨rfl, rfl⟩ (by kernel_rfl) rfl filesBack.plain (by kernel_rfl)
#print axioms filesBack_card
end Go.Proofs.YtiebaefhlacekaaDoor
