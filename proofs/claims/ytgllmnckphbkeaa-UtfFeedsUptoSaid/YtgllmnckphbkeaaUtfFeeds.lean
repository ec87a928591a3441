/- UtfFeeds: bytes that come piece by piece, cut anywhere, are the runes that they are all together; the examples hold; nothing that was handed in is changed. Conditions: the row's own (what is handed in is of bulk at most 1048576). -/
import Derived.Test.YtgllmnckphbkeaaVo
import Derived.Test.YtgllmnckphbkeaaR0
import Derived.Carry
import Derived.Deep.DeepHandedRow
import Derived.Deep.DeepWitnessRowRef
set_option linter.unusedSimpArgs false
set_option linter.unusedVariables false
namespace Go.Proofs.Ytgllmnckphbkeaa.utfFeeds
open Go Go.ChangeShapes Go.WideShapes Go.ChangeAt Go.RowKit Go.Proofs.Ytgllmnckphbkeaa.Am
theorem own : ownKnob Try.prog.godebug = none := by kernel_rfl
theorem contract (H : Type) (enc : TypeId × Value → H) (W : World) (base : Nat) (args : Array Value) (ds gs : List (DataW H)) (before : List MemPlace)
    (hval : ∀ (j : Nat) t v, Try.f8.params[j]? = some t → args[j]? = some v → Value.okWide Try.prog W .any base t v)
    (hW : DataW.Whole enc Try.prog Try.f8.params.toList Rows.utfFeedsSpec.vars false W args.toList ds gs before) (hk : Rows.uptoSmall H (ds ++ gs) = true) :
    Calls Try.prog 8 args W fun e W' => ∃ v, e = .returned v ∧ Rows.utfFeedsSpec.post enc Try.prog Try.f8 false true false false W args v W' := by
  have hW' := hW
  obtain ⟨p, q, hA0, hV, rfl, hfz, hnd⟩ := hW
  have hA : DataW.TrodAll enc Try.prog W 0 (fun _ => true) true Try.f8.params.toList args.toList ds p := hA0
  rw [Try.params8] at hA hval
  obtain ⟨v0, vs0, d0, ds0, p0, q0, hargs, rfl, rfl, h0, r0⟩ := trodAll_cons hA
  obtain ⟨v1, vs1, d1, ds1, p1, q1, rfl, rfl, rfl, h1, r1⟩ := trodAll_cons r0
  obtain ⟨rfl, rfl, rfl⟩ := trodAll_nil r1
  obtain rfl : args = #[v0, v1] := by cases args; simp_all
  obtain ⟨rfl, rfl⟩ := trodVars_none hV
  clear hA0
  have h0' := h0
  obtain ⟨fuel0, hf0⟩ := h0
  have hc0 : v0.cells.toList = [v0] := by
    obtain ⟨_, _, _, rfl⟩ := okWide_slice Try.underlying22 (hval 0 22 v0 rfl rfl)
    rfl
  have h1' := h1
  obtain ⟨fuel1, hf1⟩ := h1
  have hc1 : v1.cells.toList = [v1] := by
    obtain ⟨_, _, _, rfl⟩ := okWide_slice Try.underlying36 (hval 1 36 v1 rfl rfl)
    rfl
  have walk : Calls Try.prog 8 #[v0, v1] W fun e w' => e = .returned (.bool true) ∧ Below W.heap.size W w' := by
    rcases Nat.eq_zero_or_pos W.heap.size with hz | hW0
    · skip
      obtain rfl : v0 = .slice none 0 0 := arg_nil Try.underlying22 (hval 0 22 v0 rfl rfl) hz
      have hrd0 : RdI Try.prog (Go.Proofs.Ytgllmnckphbkeaa.Am.startHeap []) .u8 (.slice none 0 0) [] := Rd.nil0
      have hwf0 : ∀ z, z ∈ ([] : List Int) → (Lit.int .u8 z).wf = true := fun z hz => by simp at hz
      have hbk0 : ([] : List Int).length ≤ 1048576 := by simp
      have hmax0 : ([] : List Int).length ≤ maxLen := Nat.zero_le _
      obtain rfl : v1 = .slice none 0 0 := arg_nil Try.underlying36 (hval 1 36 v1 rfl rfl) hz
      have hrd1 : RdI Try.prog (Go.Proofs.Ytgllmnckphbkeaa.Am.startHeap []) .i64 (.slice none 0 0) [] := Rd.nil0
      have hwf1 : ∀ z, z ∈ ([] : List Int) → (Lit.int .i64 z).wf = true := fun z hz => by simp at hz
      have hbk1 : ([] : List Int).length ≤ 1048576 := by simp
      have hmax1 : ([] : List Int).length ≤ maxLen := Nat.zero_le _
      exact law_calls0 (xs := []) (fun x hx => by simp at hx) (AR.push (AR.push (AR.nil) VR.nilslice) VR.nilslice) (utfFeeds_law hrd0 hrd1 (fun z hz => (Lit.wf_int_iff .u8 z).1 (hwf0 z hz)) (by omega))
    · skip
      obtain ⟨xs0, L0, w0, hwf0, hdat0, hmax0, harg0⟩ := arg_intsD Try.underlying22 Try.underlying5 (show Try.prog.cellsOf 5 = 1 by kernel_rfl) elem5 fits5.2.2 hW0 hc0 hf0 0
      have hbk0 := small_slice (xs := xs0) hk (d := d0) (by simp) hdat0
      obtain ⟨xs1, L1, w1, hwf1, hdat1, hmax1, harg1⟩ := arg_intsD Try.underlying36 Try.underlying3 (show Try.prog.cellsOf 3 = 1 by kernel_rfl) elem3 fits3.2.2 hW0 hc1 hf1 1
      have hbk1 := small_slice (xs := xs1) hk (d := d1) (by simp) hdat1
      obtain ⟨lies0, hv0, hrd0⟩ := harg0 [(inBlk 5 (xs0.map (Value.int .u8)), L0), (inBlk 3 (xs1.map (Value.int .i64)), L1)] rfl
      obtain ⟨lies1, hv1, hrd1⟩ := harg1 [(inBlk 5 (xs0.map (Value.int .u8)), L0), (inBlk 3 (xs1.map (Value.int .i64)), L1)] rfl
      refine law_calls0 (xs := [(inBlk 5 (xs0.map (Value.int .u8)), L0), (inBlk 3 (xs1.map (Value.int .i64)), L1)]) (fun x hx => ?_) (AR.push (AR.push (AR.nil) hv0) hv1) (utfFeeds_law hrd0 hrd1 (fun z hz => (Lit.wf_int_iff .u8 z).1 (hwf0 z hz)) (by omega))
      simp only [List.mem_cons, List.not_mem_nil, or_false] at hx
      rcases hx with rfl | rfl
      · exact lies0
      · exact lies1
  refine walk.mono fun e W' ⟨he, hb⟩ => ?_
  subst he
  exact ⟨_, rfl, post_of_below hW' (fun _ _ _ => trodAll_cons_mk (shut_bool Try.underlying4 _) trodAll_mk0)
    (fun sp hsp => (trodAll_cons_mk (WideElems.Trod_stays (by kernel_rfl) (by kernel_rfl) (of_decide_eq_true (by kernel_rfl)) h0' (fun x hx => hb.same (hW'.lt x (by simp [hx]))) (fun x hx => hsp x (by simp [hx]))) (trodAll_cons_mk (WideElems.Trod_stays (by kernel_rfl) (by kernel_rfl) (of_decide_eq_true (by kernel_rfl)) h1' (fun x hx => hb.same (hW'.lt x (by simp [hx]))) (fun x hx => hsp x (by simp [hx]))) trodAll_mk0))) (fun _ _ => rfl) rfl (hb.frame _)⟩
set_option maxRecDepth 100000 in
theorem lifted (os : Os) (started : os.Started) (H : Type) (enc : TypeId × Value → H) (F : Stop.Interp) :
    ReturnsInHanded {} Try.checked os 8 .any ((Rows.OpenSpec.upto Rows.utfFeedsSpec).pre6 enc Try.prog Try.f8 Rows.utfFeedsUptoRow.domain false) (((Rows.OpenSpec.upto Rows.utfFeedsSpec).at F).post enc Try.prog Try.f8 false true false false) := by
  refine returnsInHanded_of_cond (C := Try.checked) (s := Rows.OpenSpec.upto Rows.utfFeedsSpec) (k := Rows.uptoSmall) rfl own started (by kernel_rfl) Try.func8
    (OpenSpec.witness (enc := enc) (C := Try.checked) (s := Rows.OpenSpec.upto Rows.utfFeedsSpec) (k := Rows.uptoSmall) rfl false ⟨#[], #[.slice none 0 0, .slice none 0 0], []⟩ 8 (by kernel_rfl) (by kernel_rfl) (by kernel_rfl)
      (x := ([.nil, .nil], [], [])) (by kernel_rfl) rfl (by kernel_rfl)) ?_
  intro W base args ds gs before hval hW _ hk _
  exact contract H enc W base args ds gs before hval hW hk
theorem said : Rows.UtfFeedsUptoSaid :=
  OpenClaim.holds_of_cond 8 Try.f8 rfl rfl rfl rfl rfl rfl rfl ⟨rfl, rfl, rfl, rfl, rfl⟩ rfl rfl rfl rfl rfl (by kernel_rfl) Try.func8 (by kernel_rfl)
    (of_decide_eq_true (by kernel_rfl)) (by unfold Func.isWrapper; first | (rw [if_pos (by decide +kernel)]; kernel_rfl) | (rw [if_neg (by decide +kernel)]; exact ⟨rfl, rfl⟩))
    (fun os started H enc _ F => lifted os started H enc F)
end Go.Proofs.Ytgllmnckphbkeaa.utfFeeds
namespace Go.Proofs.Ytgllmnckphbkeaa
theorem utfFeeds_holds : Rows.UtfFeedsUptoSaid := utfFeeds.said
#print axioms utfFeeds_holds
end Go.Proofs.Ytgllmnckphbkeaa
