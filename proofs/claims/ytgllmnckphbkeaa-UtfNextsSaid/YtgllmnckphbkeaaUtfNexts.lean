/- UtfNexts: the rune with which any bytes begin, or that more are wanted, is the document's; the examples hold; nothing that was handed in is changed. Conditions: none beyond the row's own. -/
import Derived.Test.YtgllmnckphbkeaaVo
import Derived.Test.YtgllmnckphbkeaaR0
import Derived.Carry
import Derived.Deep.DeepHandedRow
import Derived.Deep.DeepWitnessRowRef
set_option linter.unusedSimpArgs false
set_option linter.unusedVariables false
namespace Go.Proofs.Ytgllmnckphbkeaa.utfNexts
open Go Go.ChangeShapes Go.WideShapes Go.ChangeAt Go.RowKit Go.Proofs.Ytgllmnckphbkeaa.Am
theorem own : ownKnob Try.prog.godebug = none := by kernel_rfl
theorem contract (H : Type) (enc : TypeId × Value → H) (W : World) (base : Nat) (args : Array Value) (ds gs : List (DataW H)) (before : List MemPlace)
    (hval : ∀ (j : Nat) t v, Try.f5.params[j]? = some t → args[j]? = some v → Value.okWide Try.prog W .any base t v)
    (hW : DataW.Whole enc Try.prog Try.f5.params.toList Rows.utfNextsSpec.vars false W args.toList ds gs before) :
    Calls Try.prog 5 args W fun e W' => ∃ v, e = .returned v ∧ Rows.utfNextsSpec.post enc Try.prog Try.f5 false true false false W args v W' := by
  have hW' := hW
  obtain ⟨p, q, hA0, hV, rfl, hfz, hnd⟩ := hW
  have hA : DataW.TrodAll enc Try.prog W 0 (fun _ => true) true Try.f5.params.toList args.toList ds p := hA0
  rw [Try.params5] at hA hval
  obtain ⟨v0, vs0, d0, ds0, p0, q0, hargs, rfl, rfl, h0, r0⟩ := trodAll_cons hA
  obtain ⟨rfl, rfl, rfl⟩ := trodAll_nil r0
  obtain rfl : args = #[v0] := by cases args; simp_all
  obtain ⟨rfl, rfl⟩ := trodVars_none hV
  clear hA0
  have h0' := h0
  obtain ⟨fuel0, hf0⟩ := h0
  have hc0 : v0.cells.toList = [v0] := by
    obtain ⟨_, _, _, rfl⟩ := okWide_slice Try.underlying22 (hval 0 22 v0 rfl rfl)
    rfl
  have walk : Calls Try.prog 5 #[v0] W fun e w' => e = .returned (.bool true) ∧ Below W.heap.size W w' := by
    rcases Nat.eq_zero_or_pos W.heap.size with hz | hW0
    · skip
      obtain rfl : v0 = .slice none 0 0 := arg_nil Try.underlying22 (hval 0 22 v0 rfl rfl) hz
      have hrd0 : RdI Try.prog (Go.Proofs.Ytgllmnckphbkeaa.Am.startHeap []) .u8 (.slice none 0 0) [] := Rd.nil0
      have hwf0 : ∀ z, z ∈ ([] : List Int) → (Lit.int .u8 z).wf = true := fun z hz => by simp at hz
      have hbk0 : ([] : List Int).length ≤ 1048576 := by simp
      have hmax0 : ([] : List Int).length ≤ maxLen := Nat.zero_le _
      exact law_calls0 (xs := []) (fun x hx => by simp at hx) (AR.push (AR.nil) VR.nilslice) (utfNexts_law hrd0 (fun z hz => (Lit.wf_int_iff .u8 z).1 (hwf0 z hz)) (Nat.le_trans hmax0 (by decide)))
    · skip
      obtain ⟨xs0, L0, w0, hwf0, hdat0, hmax0, harg0⟩ := arg_intsD Try.underlying22 Try.underlying5 (show Try.prog.cellsOf 5 = 1 by kernel_rfl) elem5 fits5.2.2 hW0 hc0 hf0 0
      obtain ⟨lies0, hv0, hrd0⟩ := harg0 [(inBlk 5 (xs0.map (Value.int .u8)), L0)] rfl
      refine law_calls0 (xs := [(inBlk 5 (xs0.map (Value.int .u8)), L0)]) (fun x hx => ?_) (AR.push (AR.nil) hv0) (utfNexts_law hrd0 (fun z hz => (Lit.wf_int_iff .u8 z).1 (hwf0 z hz)) (Nat.le_trans hmax0 (by decide)))
      simp only [List.mem_cons, List.not_mem_nil, or_false] at hx
      subst hx; exact lies0
  refine walk.mono fun e W' ⟨he, hb⟩ => ?_
  subst he
  exact ⟨_, rfl, post_of_below hW' (fun _ _ _ => trodAll_cons_mk (shut_bool Try.underlying4 _) trodAll_mk0)
    (fun sp hsp => (trodAll_cons_mk (WideElems.Trod_stays (by kernel_rfl) (by kernel_rfl) (of_decide_eq_true (by kernel_rfl)) h0' (fun x hx => hb.same (hW'.lt x (by simp [hx]))) (fun x hx => hsp x (by simp [hx]))) trodAll_mk0)) (fun _ _ => rfl) rfl (hb.frame _)⟩
set_option maxRecDepth 100000 in
theorem lifted (os : Os) (started : os.Started) (H : Type) (enc : TypeId × Value → H) (F : Stop.Interp) :
    ReturnsInHanded {} Try.checked os 5 .any ((OpenSpec.ofChange Rows.utfNextsSpec).preRow enc Try.prog Try.f5 Rows.utfNextsRow.domain false Rows.utfNextsRow.laid) (((OpenSpec.ofChange Rows.utfNextsSpec).at F).post enc Try.prog Try.f5 false true false false) := by
  obtain ⟨places, hx⟩ : ∃ places, DataW.whole enc Try.prog ((World.plainHolding Try.prog os ⟨#[], #[.slice none 0 0], []⟩).forCall (fun _ _ => 0) ⟨#[], #[.slice none 0 0], []⟩).memory Try.f5.params.toList Rows.utfNextsSpec.vars false (#[.slice none 0 0] : Array Value).toList 8 = some ([.nil], [], places) := ⟨[], by kernel_rfl⟩
  refine returnsInHanded_of_row (C := Try.checked) (s := OpenSpec.ofChange Rows.utfNextsSpec) own started (by kernel_rfl) Try.func5
    (witness_row_atRef (enc := enc) (C := Try.checked) false (World.plainHolding Try.prog os ⟨#[], #[.slice none 0 0], []⟩) #[.slice none 0 0] rfl (by kernel_rfl) (by kernel_rfl) (by kernel_rfl)
      (OpenSpec.preRow_of_cond 8 hx (by kernel_rfl) (fun k hk => by cases hk) (by kernel_rfl) (laidMet_of_run' 8 (by kernel_rfl) (by kernel_rfl)))) ?_
  intro W base args ds gs before hval hW _ _ _ _ _ _
  exact contract H enc W base args ds gs before hval hW
theorem said : Rows.UtfNextsSaid :=
  OpenClaim.holds_of_cond 5 Try.f5 rfl rfl rfl rfl rfl rfl rfl ⟨rfl, rfl, rfl, rfl, rfl⟩ rfl rfl rfl rfl rfl (by kernel_rfl) Try.func5 (by kernel_rfl)
    (of_decide_eq_true (by kernel_rfl)) (by unfold Func.isWrapper; first | (rw [if_pos (by decide +kernel)]; kernel_rfl) | (rw [if_neg (by decide +kernel)]; exact ⟨rfl, rfl⟩))
    (fun os started H enc _ F => by rw [OpenClaim.pre_eq_preRow]; exact lifted os started H enc F)
end Go.Proofs.Ytgllmnckphbkeaa.utfNexts
namespace Go.Proofs.Ytgllmnckphbkeaa
theorem utfNexts_holds : Rows.UtfNextsSaid := utfNexts.said
#print axioms utfNexts_holds
end Go.Proofs.Ytgllmnckphbkeaa
