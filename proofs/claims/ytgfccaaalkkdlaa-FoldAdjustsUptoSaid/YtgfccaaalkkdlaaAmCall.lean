/- The frame Am, eleventh text: a function's contract out of W over its code; a region that draws its order and only reckons and reads. Nothing of a program stands here. -/
import Derived.Test.YtgfccaaalkkdlaaAmCode
set_option linter.unusedVariables false
set_option linter.unusedSimpArgs false
namespace Go.Proofs.Ytgfccaaalkkdlaa.Am
open Go Go.RowKit
section
variable {P : Program} {w0 w : World} {ρ : Ren} {h : Heap} {n : Nat} {tm : Tm} {a : Act} {Q : Exit → Tm → Heap → Prop}
theorem optV_some {o : Option Value} {K : Value → Prop} (h : optV o K) : ∃ v, o = some v ∧ K v := by
  cases o with
  | none => exact h.elim
  | some v => exact ⟨v, rfl, h⟩
theorem resV_rel (H : HRel P w0 ρ h w) (T : TR ρ n tm a) {r : ResultVar} (hr : (match r with | .tmp t => decide (t < n) | .cell x _ => decide (x < n)) = true) {v : Value} (hv : resV P h tm r = some v) :
    ∃ v', ((match r with | .tmp t => pure (a.tmps.getD t undef) | .cell x t => (do loadVar t (← asAddr (a.tmps.getD x undef)))) : Sem Value).run P w = .ok v' w ∧ VR ρ v v' := by
  cases r with
  | tmp t => cases hv; exact ⟨_, rfl, T.vals t (by simpa using hr)⟩
  | cell x t =>
    simp only [resV] at hv
    split at hv
    · rename_i y hy
      have h1 := T.vals x (by simpa using hr)
      rw [hy] at h1
      obtain ⟨y', h2, h3⟩ := h1.ptr_inv
      obtain ⟨v', h4, h5⟩ := load_rel H h3 hv
      refine ⟨v', ?_, h5⟩
      simp only [h2, asAddr, Sem.run_bind, Sem.run_pure, Result.andThen_ok]
      exact h4
    · cases hv
theorem resList_rel (H : HRel P w0 ρ h w) (T : TR ρ n tm a) : ∀ (rs : List ResultVar) {l : List Value}, (rs.all fun | .tmp t => decide (t < n) | .cell x _ => decide (x < n)) = true → resList P h tm rs = some l →
    ∃ l', (rs.mapM (m := Sem) fun | .tmp t => pure (a.tmps.getD t undef) | .cell x t => do loadVar t (← asAddr (a.tmps.getD x undef))).run P w = .ok l' w ∧ AR ρ l.toArray l'.toArray := by
  intro rs
  induction rs with
  | nil => intro l _ hl; cases hl; exact ⟨[], by simp, AR.nil⟩
  | cons r rs ih =>
    intro l hr hl
    simp only [List.all_cons, Bool.and_eq_true] at hr
    simp only [resList] at hl
    split at hl
    · rename_i v l0 hv hl0
      cases hl
      obtain ⟨v', h1, h2⟩ := resV_rel H T hr.1 hv
      obtain ⟨l', h3, h4⟩ := ih hr.2 hl0
      refine ⟨v' :: l', ?_, ?_⟩
      · simp only [List.mapM_cons, Sem.run_bind]
        refine (congrArg (fun r => Result.andThen r _) h1).trans ?_
        simp only [Result.andThen_ok, Sem.run_bind]
        refine (congrArg (fun r => Result.andThen r _) h3).trans ?_
        simp
      · have := AR.append (AR.push AR.nil h2) h4
        simpa using this
    · cases hl
theorem res_rel (H : HRel P w0 ρ h w) (T : TR ρ n tm a) {rs : Array ResultVar} (hr : resOk n rs = true) {fn : Func} (hfn : fn.results = rs) {v : Value} (hv : resOf P h tm rs = some v) : ∃ v', (results fn a.tmps).run P w = .ok v' w ∧ VR ρ v v' := by
  obtain ⟨l⟩ := rs
  unfold resOk at hr
  have one : ∀ r, l = [r] → ∃ v', (results fn a.tmps).run P w = .ok v' w ∧ VR ρ v v' := fun r e => by
    subst e
    simp only [List.all_cons, List.all_nil, Bool.and_true] at hr
    obtain ⟨v', h1, h2⟩ := resV_rel H T hr (by simpa [resOf] using hv)
    refine ⟨v', ?_, h2⟩
    unfold results
    rw [hfn, Array.mapM_eq_mapM_toList]
    simp only [Sem.run_bind, Sem.run_map, List.mapM_cons, List.mapM_nil]
    refine (congrArg (fun r => Result.andThen r _) (congrArg (fun r => Result.andThen r _) (congrArg (fun r => Result.andThen r _) h1))).trans ?_
    simp
  have many : l.length ≠ 1 → ∃ v', (results fn a.tmps).run P w = .ok v' w ∧ VR ρ v v' := fun hl => by
    have hv' : ∃ l0, resList P h tm l = some l0 ∧ v = .tuple l0.toArray := by
      unfold resOf at hv
      split at hv
      · rename_i r e; simp only at e; subst e; simp at hl
      · split at hv
        · rename_i l0 h0; cases hv; exact ⟨l0, h0, rfl⟩
        · cases hv
    obtain ⟨l0, h0, rfl⟩ := hv'
    obtain ⟨l', h1, h2⟩ := resList_rel H T l hr h0
    refine ⟨.tuple l'.toArray, ?_, VR.tuple h2⟩
    have hlen : ∀ (l : List ResultVar) (l0 : List Value), resList P h tm l = some l0 → l0.length = l.length := by
      intro l
      induction l with
      | nil => intro l0 e; cases e; rfl
      | cons r rs ih =>
        intro l0 e
        simp only [resList] at e
        split at e
        · rename_i v l1 _ h1; cases e; simp [ih _ h1]
        · cases e
    have hl' : l'.length = l.length := by
      have := h2.1
      simp only [List.size_toArray] at this
      rw [← this, hlen _ _ h0]
    unfold results
    rw [hfn, Array.mapM_eq_mapM_toList]
    simp only [Sem.run_bind, Sem.run_map]
    refine (congrArg (fun r => Result.andThen r _) (congrArg (fun r => Result.andThen r _) h1)).trans ?_
    simp [hl', hl]
  by_cases hl : l.length = 1
  · match l, hl with
    | [r], _ => exact one r rfl
  · exact many hl
theorem acallsX_of_W {f : FuncId} {fn : Func} {c : Code} {args : Array Value} {Qr Qp : Value → Heap → Prop} (hf : P.funcs[f]? = some fn) (hb : fn.body = some c) (hok : codeOk P fn.ntmps c = true)
    (hr : resOk fn.ntmps fn.results = true) (hsz : args.size ≤ fn.ntmps) (hw : W P fn.ntmps c (retK P fn.results Qr Qp) (atm args) h) : ACallsX P f args h Qr Qp := by
  intro w0 ρ w args' H A
  refine calls_of_wp hf hb ?_
  have hs := A.1
  have T : TR ρ fn.ntmps (atm args) { tmps := args' ++ Array.replicate (fn.ntmps - args'.size) undef, defers := [] } := by
    refine ⟨by simp; omega, fun t ht => ?_, rfl⟩
    simp only [atm]
    by_cases h1 : t < args.size
    · have h2 : t < args'.size := by omega
      rw [Array.getD_eq_getD_getElem?, Array.getD_eq_getD_getElem?, Array.getElem?_append_left h2, Array.getElem?_eq_getElem h1, Array.getElem?_eq_getElem h2]
      exact A.2 t _ _ (Array.getElem?_eq_getElem h1) (Array.getElem?_eq_getElem h2)
    · rw [Array.getD_eq_getD_getElem?, Array.getD_eq_getD_getElem?, Array.getElem?_append_right (by omega), Array.getElem?_eq_none (by omega), Array.getElem?_replicate]
      split <;> exact VR.undef
  refine wp_mono (W_sound c _ _ h hok hw w0 ρ w _ H T) ?_
  rintro e a' w' ⟨e0, tm', h', ρ', q, x, r, H', T'⟩
  rcases x with ⟨rfl, rfl⟩ | ⟨i, rfl, rfl⟩ | ⟨rfl, rfl⟩ | ⟨v, v', rfl, rfl, hv⟩
  · obtain ⟨v, hv, q⟩ := optV_some q
    obtain ⟨v', h1, h2⟩ := res_rel H' T' hr rfl hv
    exact ⟨T'.calm, v', h1, ρ', h', v, v', r, H', h2, .inl ⟨rfl, q⟩⟩
  · exact q.elim
  · obtain ⟨v, hv, q⟩ := optV_some q
    obtain ⟨v', h1, h2⟩ := res_rel H' T' hr rfl hv
    exact ⟨T'.calm, v', h1, ρ', h', v, v', r, H', h2, .inl ⟨rfl, q⟩⟩
  · exact ⟨T'.calm, ρ', h', v, v', r, H', hv, .inr ⟨rfl, q.2.2⟩⟩
theorem acalls_of_W {f : FuncId} {fn : Func} {c : Code} {args : Array Value} {Qr : Value → Heap → Prop} (hf : P.funcs[f]? = some fn) (hb : fn.body = some c) (hok : codeOk P fn.ntmps c = true)
    (hr : resOk fn.ntmps fn.results = true) (hsz : args.size ≤ fn.ntmps) (hw : W P fn.ntmps c (retK P fn.results Qr (fun _ _ => False)) (atm args) h) : ACalls P f args h Qr := acallsX_of_W hf hb hok hr hsz hw
end
end Go.Proofs.Ytgfccaaalkkdlaa.Am
