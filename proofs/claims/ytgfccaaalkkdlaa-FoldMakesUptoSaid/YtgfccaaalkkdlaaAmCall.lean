/- The frame Am, eleventh text: a function's contract out of W over its code; a region that draws its order and only reckons and reads. Nothing of a program stands here. -/
import Derived.Test.YtgfccaaalkkdlaaAmCode
import Derived.RangeFuncLeaves
set_option linter.unusedVariables false
set_option linter.unusedSimpArgs false
namespace Go.Proofs.Ytgfccaaalkkdlaa.Am
open Go Go.RowKit
section
variable {P : Program} {w0 w : World} {ρ : Ren} {h : Heap} {n : Nat} {tm : Tm} {a : Act} {Q : Exit → Tm → Heap → Prop}
theorem optV_some {o : Option Value} {K : Value → Prop} (h : optV o K) : ∃ v, o = some v ∧ K v := by
  cases o with
  | none => exact h.elim
  | some v => exact ⟨v, rfl, h⟩
theorem resV_rel (H : HRel P w0 ρ h w) (T : TR ρ n tm a) {r : ResultVar} (hr : (match r with | .tmp t => decide (t < n) | .cell x _ => decide (x < n)) = true) {v : Value} (hv : resV P h tm r = some v) :
    ∃ v', ((match r with | .tmp t => pure (a.tmps.getD t undef) | .cell x t => (do loadVar t (← asAddr (a.tmps.getD x undef)))) : Sem Value).run P w = .ok v' w ∧ VR ρ v v' := by
  cases r with
  | tmp t => cases hv; exact ⟨_, rfl, T.vals t (by simpa using hr)⟩
  | cell x t =>
    simp only [resV] at hv
    split at hv
    · rename_i y hy
      have h1 := T.vals x (by simpa using hr)
      rw [hy] at h1
      obtain ⟨y', h2, h3⟩ := h1.ptr_inv
      obtain ⟨v', h4, h5⟩ := load_rel H h3 hv
      refine ⟨v', ?_, h5⟩
      simp only [h2, asAddr, Sem.run_bind, Sem.run_pure, Result.andThen_ok]
      exact h4
    · cases hv
theorem resList_rel (H : HRel P w0 ρ h w) (T : TR ρ n tm a) : ∀ (rs : List ResultVar) {l : List Value}, (rs.all fun | .tmp t => decide (t < n) | .cell x _ => decide (x < n)) = true → resList P h tm rs = some l →
    ∃ l', (rs.mapM (m := Sem) fun | .tmp t => pure (a.tmps.getD t undef) | .cell x t => do loadVar t (← asAddr (a.tmps.getD x undef))).run P w = .ok l' w ∧ AR ρ l.toArray l'.toArray := by
  intro rs
  induction rs with
  | nil => intro l _ hl; cases hl; exact ⟨[], by simp, AR.nil⟩
  | cons r rs ih =>
    intro l hr hl
    simp only [List.all_cons, Bool.and_eq_true] at hr
    simp only [resList] at hl
    split at hl
    · rename_i v l0 hv hl0
      cases hl
      obtain ⟨v', h1, h2⟩ := resV_rel H T hr.1 hv
      obtain ⟨l', h3, h4⟩ := ih hr.2 hl0
      refine ⟨v' :: l', ?_, ?_⟩
      · simp only [List.mapM_cons, Sem.run_bind]
        refine (congrArg (fun r => Result.andThen r _) h1).trans ?_
        simp only [Result.andThen_ok, Sem.run_bind]
        refine (congrArg (fun r => Result.andThen r _) h3).trans ?_
        simp
      · have := AR.append (AR.push AR.nil h2) h4
        simpa using this
    · cases hl
theorem res_rel (H : HRel P w0 ρ h w) (T : TR ρ n tm a) {rs : Array ResultVar} (hr : resOk n rs = true) {fn : Func} (hfn : fn.results = rs) {v : Value} (hv : resOf P h tm rs = some v) : ∃ v', (results fn a.tmps).run P w = .ok v' w ∧ VR ρ v v' := by
  obtain ⟨l⟩ := rs
  unfold resOk at hr
  have one : ∀ r, l = [r] → ∃ v', (results fn a.tmps).run P w = .ok v' w ∧ VR ρ v v' := fun r e => by
    subst e
    simp only [List.all_cons, List.all_nil, Bool.and_true] at hr
    obtain ⟨v', h1, h2⟩ := resV_rel H T hr (by simpa [resOf] using hv)
    refine ⟨v', ?_, h2⟩
    unfold results
    rw [hfn, Array.mapM_eq_mapM_toList]
    simp only [Sem.run_bind, Sem.run_map, List.mapM_cons, List.mapM_nil]
    refine (congrArg (fun r => Result.andThen r _) (congrArg (fun r => Result.andThen r _) (congrArg (fun r => Result.andThen r _) h1))).trans ?_
    simp
  have many : l.length ≠ 1 → ∃ v', (results fn a.tmps).run P w = .ok v' w ∧ VR ρ v v' := fun hl => by
    have hv' : ∃ l0, resList P h tm l = some l0 ∧ v = .tuple l0.toArray := by
      unfold resOf at hv
      split at hv
      · rename_i r e; simp only at e; subst e; simp at hl
      · split at hv
        · rename_i l0 h0; cases hv; exact ⟨l0, h0, rfl⟩
        · cases hv
    obtain ⟨l0, h0, rfl⟩ := hv'
    obtain ⟨l', h1, h2⟩ := resList_rel H T l hr h0
    refine ⟨.tuple l'.toArray, ?_, VR.tuple h2⟩
    have hlen : ∀ (l : List ResultVar) (l0 : List Value), resList P h tm l = some l0 → l0.length = l.length := by
      intro l
      induction l with
      | nil => intro l0 e; cases e; rfl
      | cons r rs ih =>
        intro l0 e
        simp only [resList] at e
        split at e
        · rename_i v l1 _ h1; cases e; simp [ih _ h1]
        · cases e
    have hl' : l'.length = l.length := by
      have := h2.1
      simp only [List.size_toArray] at this
      rw [← this, hlen _ _ h0]
    unfold results
    rw [hfn, Array.mapM_eq_mapM_toList]
    simp only [Sem.run_bind, Sem.run_map]
    refine (congrArg (fun r => Result.andThen r _) (congrArg (fun r => Result.andThen r _) h1)).trans ?_
    simp [hl', hl]
  by_cases hl : l.length = 1
  · match l, hl with
    | [r], _ => exact one r rfl
  · exact many hl
/-- The mark of a block is taken off: it is shut. -/
def Ren.shut (ρ : Ren) (b : Nat) : Ren := fun x => if x = b then (ρ x).map fun L => ⟨L.blk, L.off, L.sz, L.top, false⟩ else ρ x
theorem Ren.shut_ne {ρ : Ren} {b x : Nat} (h : x ≠ b) : Ren.shut ρ b x = ρ x := if_neg h
theorem Ren.shut_self {ρ : Ren} {b : Nat} : Ren.shut ρ b b = (ρ b).map fun L => ⟨L.blk, L.off, L.sz, L.top, false⟩ := if_pos rfl
theorem Ren.shut_eqv (ρ : Ren) (b : Nat) : RenEq ρ (Ren.shut ρ b) := fun x => by
  by_cases e : x = b
  · subst e; rw [Ren.shut_self]; cases ρ x <;> rfl
  · rw [Ren.shut_ne e]
theorem TR.eqv {ρ' : Ren} (hρ : RenEq ρ ρ') (T : TR ρ n tm a) : TR ρ' n tm a := ⟨T.size, fun t ht => (T.vals t ht).eqv hρ⟩
theorem HRel.shut (H : HRel P w0 ρ h w) {b : Nat} {L : Loc} (hb : ρ b = some L) (hm : L.mrk = true) : HRel P w0 (Ren.shut ρ b) h (w.putObj L.blk (.deferred none)) := by
  have E := Ren.shut_eqv ρ b
  obtain ⟨hw, ho⟩ := H.mo.marks b L hb hm
  have oth : ∀ x, x ≠ L.blk → (w.putObj L.blk (.deferred none)).heap[x]? = w.heap[x]? := fun x hx => World.putObj_heap_other hx
  have cel : ∀ {x : Nat} {o : Obj}, w.heap[x]? = some o → markO o = false → x ≠ L.blk := fun {x o} h1 h2 e => by rw [e, ho] at h1; cases h1; cases h2
  have back : ∀ x L', Ren.shut ρ b x = some L' → ∃ L0, ρ x = some L0 ∧ L0.blk = L'.blk ∧ L0.off = L'.off ∧ L0.sz = L'.sz ∧ L0.top = L'.top := fun x L' h => E.symm.get h
  refine ⟨?_, H.dom, H.fam, fun x k hx => ?_, fun x hx => ?_, fun b1 b2 k1 k2 L1 L2 h1 h2 r1 r2 o1 o2 he => ?_, fun b1 b2 k1 k2 L1 L2 hne h1 h2 r1 r2 o1 o2 l1 l2 t1 he => ?_, fun g hg => ?_, ?_⟩
  · exact ⟨H.below.os, H.below.tape, H.below.output, by rw [World.putObj_size]; exact H.below.size, fun x hx => (oth x (by omega)).trans (H.below.block x hx)⟩
  · obtain ⟨L1, h1, B⟩ := H.lies x k hx
    obtain ⟨L2, g, g1, g2, g3, g4⟩ := E.get h1
    refine ⟨L2, g, fun hl i v hv => ?_, fun hr => by rw [g1]; exact B.came hr, fun hr => ?_, ?_⟩
    · obtain ⟨q1, v', q2, q3⟩ := B.reads hl i v hv
      refine ⟨q1, v', ?_, q3.eqv E⟩
      rw [g1, g2]
      refine (cell_eq (oth _ ?_)).trans q2
      simp only [World.cell?] at q2
      intro e
      simp only at e
      rw [e, ho] at q2
      simp at q2
    · obtain ⟨q1, q2, arr, t, fr, q3, q4, q5⟩ := B.own hr
      refine ⟨by rw [g1]; exact q1, by rw [g2, g4]; exact q2, arr, t, fr, by rw [g1]; exact (oth _ (cel q3 rfl)).trans q3, by rw [g4]; exact q4, by rw [g4, g3]; exact q5⟩
    · obtain ⟨i, q1, q2⟩ := B.info
      exact ⟨i, q1, by rw [g3]; exact q2⟩
  · have := H.fresh x hx
    have e := E x
    rw [this] at e
    cases hs : Ren.shut ρ b x with
    | none => rfl
    | some L' => rw [hs] at e; cases e
  · obtain ⟨M1, e1, f1, _⟩ := back _ _ r1
    obtain ⟨M2, e2, f2, _⟩ := back _ _ r2
    exact H.sep b1 b2 k1 k2 M1 M2 h1 h2 e1 e2 o1 o2 (by rw [f1, f2]; exact he)
  · obtain ⟨M1, e1, f1, f2, _⟩ := back _ _ r1
    obtain ⟨M2, e2, g1, g2, _⟩ := back _ _ r2
    have := H.tails b1 b2 k1 k2 M1 M2 hne h1 h2 e1 e2 o1 o2 l1 l2 t1 (by rw [f1, g1]; exact he)
    rw [f2, g2] at this; exact this
  · obtain ⟨L1, h1, h2, h3⟩ := H.globs g hg
    obtain ⟨L2, q, g1, g2, _⟩ := E.get h1
    exact ⟨L2, q, by rw [g1]; exact h2, by rw [g2]; exact h3⟩
  · have mkb : ∀ x L', Ren.shut ρ b x = some L' → L'.mrk = true → x ≠ b ∧ ρ x = some L' := fun x L' hx hm' => by
      by_cases e : x = b
      · subst e; rw [Ren.shut_self, hb] at hx; cases hx; cases hm'
      · rw [Ren.shut_ne e] at hx; exact ⟨e, hx⟩
    refine ⟨fun x ao hx => ?_, fun b1 b2 a1 a2 L1 L2 hne h1 h2 r1 r2 => ?_, fun x L' hx hm' => ?_, fun b1 b2 L1 L2 hne r1 r2 m1 m2 => ?_⟩
    · obtain ⟨h1, L1, o, h2, h3, h4, h5, h6⟩ := H.mo.objs x ao hx
      have hxb : x ≠ b := fun e => by subst e; rw [hb] at h2; cases h2; rw [hm] at h3; cases h3
      exact ⟨h1, L1, o, by rw [Ren.shut_ne hxb]; exact h2, h3, h4, (oth _ (cel h5 h6.kind.2)).trans h5, h6.eqv E⟩
    · obtain ⟨M1, e1, f1, _⟩ := back _ _ r1
      obtain ⟨M2, e2, f2, _⟩ := back _ _ r2
      rw [← f1, ← f2]
      exact H.mo.objsep b1 b2 a1 a2 M1 M2 hne h1 h2 e1 e2
    · obtain ⟨e, h1⟩ := mkb x L' hx hm'
      obtain ⟨q1, q2⟩ := H.mo.marks x L' h1 hm'
      exact ⟨q1, (oth _ (H.mo.marksep x b L' L e h1 hb hm' hm)).trans q2⟩
    · exact H.mo.marksep b1 b2 L1 L2 hne (mkb _ _ r1 m1).2 (mkb _ _ r2 m2).2 m1 m2
/-- A function leaves: the open blocks of its ranges are shut, one by one. -/
theorem leaves_marks {fn : Func} {tmps : Array Value} {R : Ending → World → Prop} {u : FrameMode} (hu : u ≠ .run) {ρe : Ren} : ∀ (bs : List (Nat × Nat)) (ρ : Ren) (w : World), (bs.map (·.1)).Nodup → (∀ x, x ∈ bs → ρe x.1 = none ∧ ∃ L, ρ x.1 = some L ∧ L.mrk = true ∧ L.blk = x.2) →
    HRel P w0 ρ h w → RenLe ρe ρ → (∀ ρ' w', RenEq ρ ρ' → RenLe ρe ρ' → HRel P w0 ρ' h w' → LeavesIn Fence.wide 0 P fn tmps R [] u w') →
    LeavesInM Fence.wide 0 P fn tmps R (bs.map (fun x => ({ target := .collected x.2, args := #[] } : Deferred)) ++ []) u w
  | [], ρ, w, _, _, H, hle, hend => hend ρ w (RenEq.refl ρ) hle H
  | x :: bs, ρ, w, hnd, hall, H, hle, hend => by
    obtain ⟨hne, L, hL, hm, hbk⟩ := hall x (by simp)
    simp only [List.map_cons, List.nodup_cons] at hnd
    obtain ⟨q1, q2⟩ := H.mo.marks _ _ hL hm
    refine ⟨hu, .inl ⟨x.2, w.putObj x.2 (.deferred none), rfl, by rw [← hbk]; exact run_takeDeferred q2, ?_⟩⟩
    refine leaves_marks hu bs (Ren.shut ρ x.1) _ hnd.2 (fun y hy => ?_) (by rw [← hbk]; exact H.shut hL hm) (fun b L' hb => ?_) (fun ρ' w' e1 e2 e3 => hend ρ' w' ((Ren.shut_eqv ρ x.1).trans e1) e2 e3)
    · obtain ⟨g1, L', g2, g3, g4⟩ := hall y (by simp [hy])
      have : y.1 ≠ x.1 := fun e => hnd.1 (by rw [← e]; exact List.mem_map.2 ⟨y, hy, rfl⟩)
      exact ⟨g1, L', by rw [Ren.shut_ne this]; exact g2, g3, g4⟩
    · have : b ≠ x.1 := fun e => by rw [e, hne] at hb; cases hb
      rw [Ren.shut_ne this]; exact hle b L' hb
theorem acallsX_of_W {f : FuncId} {fn : Func} {c : Code} {args : Array Value} {Qr Qp : Value → Heap → Prop} (hf : P.funcs[f]? = some fn) (hb : fn.body = some c) (hok : codeOk P fn.ntmps c = true)
    (hr : resOk fn.ntmps fn.results = true) (hsz : args.size ≤ fn.ntmps) (hw : W P fn.ntmps c (retK P fn.results Qr Qp) (atm args) h) : ACallsX P f args h Qr Qp := by
  intro w0 ρ w args' H A
  refine callsIn_wide.1 (callsIn_of_wp_marks (F := Fence.wide) (n := 0) hf hb trivial ?_)
  have hs := A.1
  have T : TR ρ fn.ntmps (atm args) { tmps := args' ++ Array.replicate (fn.ntmps - args'.size) undef, defers := [] } := by
    refine ⟨by simp; omega, fun t ht => ?_⟩
    simp only [atm]
    by_cases h1 : t < args.size
    · have h2 : t < args'.size := by omega
      rw [Array.getD_eq_getD_getElem?, Array.getD_eq_getD_getElem?, Array.getElem?_append_left h2, Array.getElem?_eq_getElem h1, Array.getElem?_eq_getElem h2]
      exact A.2 t _ _ (Array.getElem?_eq_getElem h1) (Array.getElem?_eq_getElem h2)
    · rw [Array.getD_eq_getD_getElem?, Array.getD_eq_getD_getElem?, Array.getElem?_append_right (by omega), Array.getElem?_eq_none (by omega), Array.getElem?_replicate]
      split <;> exact VR.undef
  refine wpIn_mono (W_sound (ro := none) c _ _ h hok (.inl rfl) hw w0 ρ w _ H T) ?_
  rintro e a' w' ⟨e0, tm', h', ρ', q, x, r, H', T', bs, hnd, hds, hall⟩
  have done : ∀ v, resOf P h' tm' fn.results = some v → Qr v h' → LeavesInM Fence.wide 0 P fn a'.tmps (CPost P w0 ρ Qr Qp) a'.defers .returning w' := fun v hv q => by
    rw [hds]
    refine leaves_marks (by simp) bs ρ' w' hnd hall H' r fun ρ2 w2 e1 e2 H2 => ?_
    obtain ⟨v', h1, h2⟩ := res_rel H2 (T'.eqv e1) hr rfl hv
    exact ⟨v', h1, ρ2, h', v, v', e2, H2, h2, .inl ⟨rfl, q⟩⟩
  rcases x with ⟨rfl, rfl⟩ | ⟨i, rfl, rfl⟩ | ⟨rfl, rfl⟩ | ⟨v, v', rfl, rfl, hv⟩
  · obtain ⟨v, hv, q⟩ := optV_some q
    exact done v hv q
  · exact q.elim
  · obtain ⟨v, hv, q⟩ := optV_some q
    exact done v hv q
  · show LeavesInM Fence.wide 0 P fn a'.tmps (CPost P w0 ρ Qr Qp) a'.defers (.panicking _) w'
    rw [hds]
    refine leaves_marks (by simp) bs ρ' w' hnd hall H' r fun ρ2 w2 e1 e2 H2 => ?_
    exact ⟨ρ2, h', v, v', e2, H2, hv.eqv e1, .inr ⟨rfl, q.2.2⟩⟩
theorem acalls_of_W {f : FuncId} {fn : Func} {c : Code} {args : Array Value} {Qr : Value → Heap → Prop} (hf : P.funcs[f]? = some fn) (hb : fn.body = some c) (hok : codeOk P fn.ntmps c = true)
    (hr : resOk fn.ntmps fn.results = true) (hsz : args.size ≤ fn.ntmps) (hw : W P fn.ntmps c (retK P fn.results Qr (fun _ _ => False)) (atm args) h) : ACalls P f args h Qr := acallsX_of_W hf hb hok hr hsz hw
end
end Go.Proofs.Ytgfccaaalkkdlaa.Am
