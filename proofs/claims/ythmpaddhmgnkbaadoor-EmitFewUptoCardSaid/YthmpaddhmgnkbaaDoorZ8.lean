/- The texts of this seat, one behind another (part 8 of 25): the frame (an abstract machine), the contracts of functions, the laws. -/
import Derived.Test.YthmpaddhmgnkbaaDoorZ7
import Derived.RangeFuncLeaves
section
/- The frame Am, eleventh text: a function's contract out of W over its code; a region that draws its order and only reckons and reads. Nothing of a program stands here. -/
set_option linter.unusedVariables false
set_option linter.unusedSimpArgs false
namespace Go.Proofs.YthmpaddhmgnkbaaDoor.Am
open Go Go.RowKit
section
variable {P : Program} {w0 w : World} {ρ : Ren} {h : Heap} {n : Nat} {tm : Tm} {a : Act} {Q : Exit → Tm → Heap → Prop}
theorem optV_some {o : Option Value} {K : Value → Prop} (h : optV o K) : ∃ v, o = some v ∧ K v := by
  cases o with
  | none => exact h.elim
  | some v => exact ⟨v, rfl, h⟩
theorem resV_rel (H : HRel P w0 ρ h w) (T : TR ρ n tm a) {r : ResultVar} (hr : (match r with | .tmp t => decide (t < n) | .cell x _ => decide (x < n)) = true) {v : Value} (hv : resV P h tm r = some v) :
    ∃ v', ((match r with | .tmp t => pure (a.tmps.getD t undef) | .cell x t => (do loadVar t (← asAddr (a.tmps.getD x undef)))) : Sem Value).run P w = .ok v' w ∧ VR ρ v v' := by
  cases r with
  | tmp t => cases hv; exact ⟨_, rfl, T.vals t (by simpa using hr)⟩
  | cell x t =>
    simp only [resV] at hv
    split at hv
    · rename_i y hy
      have h1 := T.vals x (by simpa using hr)
      rw [hy] at h1
      obtain ⟨y', h2, h3⟩ := h1.ptr_inv
      obtain ⟨v', h4, h5⟩ := load_rel H h3 hv
      refine ⟨v', ?_, h5⟩
      simp only [h2, asAddr, Sem.run_bind, Sem.run_pure, Result.andThen_ok]
      exact h4
    · cases hv
theorem resList_rel (H : HRel P w0 ρ h w) (T : TR ρ n tm a) : ∀ (rs : List ResultVar) {l : List Value}, (rs.all fun | .tmp t => decide (t < n) | .cell x _ => decide (x < n)) = true → resList P h tm rs = some l →
    ∃ l', (rs.mapM (m := Sem) fun | .tmp t => pure (a.tmps.getD t undef) | .cell x t => do loadVar t (← asAddr (a.tmps.getD x undef))).run P w = .ok l' w ∧ AR ρ l.toArray l'.toArray := by
  intro rs
  induction rs with
  | nil => intro l _ hl; cases hl; exact ⟨[], by simp, AR.nil⟩
  | cons r rs ih =>
    intro l hr hl
    simp only [List.all_cons, Bool.and_eq_true] at hr
    simp only [resList] at hl
    split at hl
    · rename_i v l0 hv hl0
      cases hl
      obtain ⟨v', h1, h2⟩ := resV_rel H T hr.1 hv
      obtain ⟨l', h3, h4⟩ := ih hr.2 hl0
      refine ⟨v' :: l', ?_, ?_⟩
      · simp only [List.mapM_cons, Sem.run_bind]
        refine (congrArg (fun r => Result.andThen r _) h1).trans ?_
        simp only [Result.andThen_ok, Sem.run_bind]
        refine (congrArg (fun r => Result.andThen r _) h3).trans ?_
        simp
      · have := AR.append (AR.push AR.nil h2) h4
        simpa using this
    · cases hl
theorem res_rel (H : HRel P w0 ρ h w) (T : TR ρ n tm a) {rs : Array ResultVar} (hr : resOk n rs = true) {fn : Func} (hfn : fn.results = rs) {v : Value} (hv : resOf P h tm rs = some v) : ∃ v', (results fn a.tmps).run P w = .ok v' w ∧ VR ρ v v' := by
  obtain ⟨l⟩ := rs
  unfold resOk at hr
  have one : ∀ r, l = [r] → ∃ v', (results fn a.tmps).run P w = .ok v' w ∧ VR ρ v v' := fun r e => by
    subst e
    simp only [List.all_cons, List.all_nil, Bool.and_true] at hr
    obtain ⟨v', h1, h2⟩ := resV_rel H T hr (by simpa [resOf] using hv)
    refine ⟨v', ?_, h2⟩
    unfold results
    rw [hfn, Array.mapM_eq_mapM_toList]
    simp only [Sem.run_bind, Sem.run_map, List.mapM_cons, List.mapM_nil]
    refine (congrArg (fun r => Result.andThen r _) (congrArg (fun r => Result.andThen r _) (congrArg (fun r => Result.andThen r _) h1))).trans ?_
    simp
  have many : l.length ≠ 1 → ∃ v', (results fn a.tmps).run P w = .ok v' w ∧ VR ρ v v' := fun hl => by
    have hv' : ∃ l0, resList P h tm l = some l0 ∧ v = .tuple l0.toArray := by
      unfold resOf at hv
      split at hv
      · rename_i r e; simp only at e; subst e; simp at hl
      · split at hv
        · rename_i l0 h0; cases hv; exact ⟨l0, h0, rfl⟩
        · cases hv
    obtain ⟨l0, h0, rfl⟩ := hv'
    obtain ⟨l', h1, h2⟩ := resList_rel H T l hr h0
    refine ⟨.tuple l'.toArray, ?_, VR.tuple h2⟩
    have hlen : ∀ (l : List ResultVar) (l0 : List Value), resList P h tm l = some l0 → l0.length = l.length := by
      intro l
      induction l with
      | nil => intro l0 e; cases e; rfl
      | cons r rs ih =>
        intro l0 e
        simp only [resList] at e
        split at e
        · rename_i v l1 _ h1; cases e; simp [ih _ h1]
        · cases e
    have hl' : l'.length = l.length := by
      have := h2.1
      simp only [List.size_toArray] at this
      rw [← this, hlen _ _ h0]
    unfold results
    rw [hfn, Array.mapM_eq_mapM_toList]
    simp only [Sem.run_bind, Sem.run_map]
    refine (congrArg (fun r => Result.andThen r _) (congrArg (fun r => Result.andThen r _) h1)).trans ?_
    simp [hl', hl]
  by_cases hl : l.length = 1
  · match l, hl with
    | [r], _ => exact one r rfl
  · exact many hl
/-- The mark of a block is taken off: it is shut. -/
def Ren.shut (ρ : Ren) (b : Nat) : Ren := fun x => if x = b then (ρ x).map fun L => ⟨L.blk, L.off, L.sz, L.top, false⟩ else ρ x
theorem Ren.shut_ne {ρ : Ren} {b x : Nat} (h : x ≠ b) : Ren.shut ρ b x = ρ x := if_neg h
theorem Ren.shut_self {ρ : Ren} {b : Nat} : Ren.shut ρ b b = (ρ b).map fun L => ⟨L.blk, L.off, L.sz, L.top, false⟩ := if_pos rfl
theorem Ren.shut_eqv (ρ : Ren) (b : Nat) : RenEq ρ (Ren.shut ρ b) := fun x => by
  by_cases e : x = b
  · subst e; rw [Ren.shut_self]; cases ρ x <;> rfl
  · rw [Ren.shut_ne e]
theorem TR.eqv {ρ' : Ren} (hρ : RenEq ρ ρ') (T : TR ρ n tm a) : TR ρ' n tm a := ⟨T.size, fun t ht => (T.vals t ht).eqv hρ⟩
theorem HRel.shut (H : HRel P w0 ρ h w) {b : Nat} {L : Loc} (hb : ρ b = some L) (hm : L.mrk = true) : HRel P w0 (Ren.shut ρ b) h (w.putObj L.blk (.deferred none)) := by
  have E := Ren.shut_eqv ρ b
  obtain ⟨hw, ho⟩ := H.mo.marks b L hb hm
  have oth : ∀ x, x ≠ L.blk → (w.putObj L.blk (.deferred none)).heap[x]? = w.heap[x]? := fun x hx => World.putObj_heap_other hx
  have cel : ∀ {x : Nat} {o : Obj}, w.heap[x]? = some o → markO o = false → x ≠ L.blk := fun {x o} h1 h2 e => by rw [e, ho] at h1; cases h1; cases h2
  have back : ∀ x L', Ren.shut ρ b x = some L' → ∃ L0, ρ x = some L0 ∧ L0.blk = L'.blk ∧ L0.off = L'.off ∧ L0.sz = L'.sz ∧ L0.top = L'.top := fun x L' h => E.symm.get h
  refine ⟨?_, H.dom, H.fam, fun x k hx => ?_, fun x hx => ?_, fun b1 b2 k1 k2 L1 L2 h1 h2 r1 r2 o1 o2 he => ?_, fun b1 b2 k1 k2 L1 L2 hne h1 h2 r1 r2 o1 o2 l1 l2 t1 he => ?_, fun g hg => ?_, ?_⟩
  · exact ⟨H.below.os, H.below.tape, H.below.output, by rw [World.putObj_size]; exact H.below.size, fun x hx => (oth x (by omega)).trans (H.below.block x hx)⟩
  · obtain ⟨L1, h1, B⟩ := H.lies x k hx
    obtain ⟨L2, g, g1, g2, g3, g4⟩ := E.get h1
    refine ⟨L2, g, fun hl i v hv => ?_, fun hr => by rw [g1]; exact B.came hr, fun hr => ?_, ?_, fun h1 h2 => by rw [g1, g2]; exact B.whole h1 h2⟩
    · obtain ⟨q1, v', q2, q3⟩ := B.reads hl i v hv
      refine ⟨q1, v', ?_, q3.eqv E⟩
      rw [g1, g2]
      refine (cell_eq (oth _ ?_)).trans q2
      simp only [World.cell?] at q2
      intro e
      simp only at e
      rw [e, ho] at q2
      simp at q2
    · obtain ⟨q1, q2, arr, t, fr, q3, q4, q5⟩ := B.own hr
      refine ⟨by rw [g1]; exact q1, by rw [g2, g4]; exact q2, arr, t, fr, by rw [g1]; exact (oth _ (cel q3 rfl)).trans q3, by rw [g4]; exact q4, by rw [g4, g3]; exact q5⟩
    · obtain ⟨i, q1, q2⟩ := B.info
      exact ⟨i, q1, by rw [g3]; exact q2⟩
  · have := H.fresh x hx
    have e := E x
    rw [this] at e
    cases hs : Ren.shut ρ b x with
    | none => rfl
    | some L' => rw [hs] at e; cases e
  · obtain ⟨M1, e1, f1, _⟩ := back _ _ r1
    obtain ⟨M2, e2, f2, _⟩ := back _ _ r2
    exact H.sep b1 b2 k1 k2 M1 M2 h1 h2 e1 e2 o1 o2 (by rw [f1, f2]; exact he)
  · obtain ⟨M1, e1, f1, f2, _⟩ := back _ _ r1
    obtain ⟨M2, e2, g1, g2, _⟩ := back _ _ r2
    have := H.tails b1 b2 k1 k2 M1 M2 hne h1 h2 e1 e2 o1 o2 l1 l2 t1 (by rw [f1, g1]; exact he)
    rw [f2, g2] at this; exact this
  · obtain ⟨L1, h1, h2, h3⟩ := H.globs g hg
    obtain ⟨L2, q, g1, g2, _⟩ := E.get h1
    exact ⟨L2, q, by rw [g1]; exact h2, by rw [g2]; exact h3⟩
  · have mkb : ∀ x L', Ren.shut ρ b x = some L' → L'.mrk = true → x ≠ b ∧ ρ x = some L' := fun x L' hx hm' => by
      by_cases e : x = b
      · subst e; rw [Ren.shut_self, hb] at hx; cases hx; cases hm'
      · rw [Ren.shut_ne e] at hx; exact ⟨e, hx⟩
    refine ⟨fun x ao hx => ?_, fun b1 b2 a1 a2 L1 L2 hne h1 h2 r1 r2 => ?_, fun x L' hx hm' => ?_, fun b1 b2 L1 L2 hne r1 r2 m1 m2 => ?_⟩
    · obtain ⟨h1, L1, o, h2, h3, h4, h5, h6⟩ := H.mo.objs x ao hx
      have hxb : x ≠ b := fun e => by subst e; rw [hb] at h2; cases h2; rw [hm] at h3; cases h3
      exact ⟨h1, L1, o, by rw [Ren.shut_ne hxb]; exact h2, h3, h4, (oth _ (cel h5 h6.kind.2)).trans h5, h6.eqv E⟩
    · obtain ⟨M1, e1, f1, _⟩ := back _ _ r1
      obtain ⟨M2, e2, f2, _⟩ := back _ _ r2
      rw [← f1, ← f2]
      exact H.mo.objsep b1 b2 a1 a2 M1 M2 hne h1 h2 e1 e2
    · obtain ⟨e, h1⟩ := mkb x L' hx hm'
      obtain ⟨q1, q2⟩ := H.mo.marks x L' h1 hm'
      exact ⟨q1, (oth _ (H.mo.marksep x b L' L e h1 hb hm' hm)).trans q2⟩
    · exact H.mo.marksep b1 b2 L1 L2 hne (mkb _ _ r1 m1).2 (mkb _ _ r2 m2).2 m1 m2
/-- A function leaves: the open blocks of its ranges are shut, one by one. -/
theorem leaves_marks {fn : Func} {tmps : Array Value} {R : Ending → World → Prop} {u : FrameMode} (hu : u ≠ .run) {ρe : Ren} : ∀ (bs : List (Nat × Nat)) (ρ : Ren) (w : World), (bs.map (·.1)).Nodup → (∀ x, x ∈ bs → ρe x.1 = none ∧ ∃ L, ρ x.1 = some L ∧ L.mrk = true ∧ L.blk = x.2) →
    HRel P w0 ρ h w → RenLe ρe ρ → (∀ ρ' w', RenEq ρ ρ' → RenLe ρe ρ' → HRel P w0 ρ' h w' → LeavesIn Fence.wide 0 P fn tmps R [] u w') →
    LeavesInM Fence.wide 0 P fn tmps R (bs.map (fun x => ({ target := .collected x.2, args := #[] } : Deferred)) ++ []) u w
  | [], ρ, w, _, _, H, hle, hend => hend ρ w (RenEq.refl ρ) hle H
  | x :: bs, ρ, w, hnd, hall, H, hle, hend => by
    obtain ⟨hne, L, hL, hm, hbk⟩ := hall x (by simp)
    simp only [List.map_cons, List.nodup_cons] at hnd
    obtain ⟨q1, q2⟩ := H.mo.marks _ _ hL hm
    refine ⟨hu, .inl ⟨x.2, w.putObj x.2 (.deferred none), rfl, by rw [← hbk]; exact run_takeDeferred q2, ?_⟩⟩
    refine leaves_marks hu bs (Ren.shut ρ x.1) _ hnd.2 (fun y hy => ?_) (by rw [← hbk]; exact H.shut hL hm) (fun b L' hb => ?_) (fun ρ' w' e1 e2 e3 => hend ρ' w' ((Ren.shut_eqv ρ x.1).trans e1) e2 e3)
    · obtain ⟨g1, L', g2, g3, g4⟩ := hall y (by simp [hy])
      have : y.1 ≠ x.1 := fun e => hnd.1 (by rw [← e]; exact List.mem_map.2 ⟨y, hy, rfl⟩)
      exact ⟨g1, L', by rw [Ren.shut_ne this]; exact g2, g3, g4⟩
    · have : b ≠ x.1 := fun e => by rw [e, hne] at hb; cases hb
      rw [Ren.shut_ne this]; exact hle b L' hb
theorem acallsX_of_W {f : FuncId} {fn : Func} {c : Code} {args : Array Value} {Qr Qp : Value → Heap → Prop} (hf : P.funcs[f]? = some fn) (hb : fn.body = some c) (hok : codeOk P fn.ntmps c = true)
    (hr : resOk fn.ntmps fn.results = true) (hsz : args.size ≤ fn.ntmps) (hw : W P fn.ntmps c (retK P fn.results Qr Qp) (atm args) h) : ACallsX P f args h Qr Qp := by
  intro w0 ρ w args' H A
  refine callsIn_wide.1 (callsIn_of_wp_marks (F := Fence.wide) (n := 0) hf hb trivial ?_)
  have hs := A.1
  have T : TR ρ fn.ntmps (atm args) { tmps := args' ++ Array.replicate (fn.ntmps - args'.size) undef, defers := [] } := by
    refine ⟨by simp; omega, fun t ht => ?_⟩
    simp only [atm]
    by_cases h1 : t < args.size
    · have h2 : t < args'.size := by omega
      rw [Array.getD_eq_getD_getElem?, Array.getD_eq_getD_getElem?, Array.getElem?_append_left h2, Array.getElem?_eq_getElem h1, Array.getElem?_eq_getElem h2]
      exact A.2 t _ _ (Array.getElem?_eq_getElem h1) (Array.getElem?_eq_getElem h2)
    · rw [Array.getD_eq_getD_getElem?, Array.getD_eq_getD_getElem?, Array.getElem?_append_right (by omega), Array.getElem?_eq_none (by omega), Array.getElem?_replicate]
      split <;> exact VR.undef
  refine wpIn_mono (W_sound (ro := none) c _ _ h hok (.inl rfl) hw w0 ρ w _ H T) ?_
  rintro e a' w' ⟨e0, tm', h', ρ', q, x, r, H', T', bs, hnd, hds, hall⟩
  have done : ∀ v, resOf P h' tm' fn.results = some v → Qr v h' → LeavesInM Fence.wide 0 P fn a'.tmps (CPost P w0 ρ Qr Qp) a'.defers .returning w' := fun v hv q => by
    rw [hds]
    refine leaves_marks (by simp) bs ρ' w' hnd hall H' r fun ρ2 w2 e1 e2 H2 => ?_
    obtain ⟨v', h1, h2⟩ := res_rel H2 (T'.eqv e1) hr rfl hv
    exact ⟨v', h1, ρ2, h', v, v', e2, H2, h2, .inl ⟨rfl, q⟩⟩
  rcases x with ⟨rfl, rfl⟩ | ⟨i, rfl, rfl⟩ | ⟨rfl, rfl⟩ | ⟨v, v', rfl, rfl, hv⟩
  · obtain ⟨v, hv, q⟩ := optV_some q
    exact done v hv q
  · exact q.elim
  · obtain ⟨v, hv, q⟩ := optV_some q
    exact done v hv q
  · show LeavesInM Fence.wide 0 P fn a'.tmps (CPost P w0 ρ Qr Qp) a'.defers (.panicking _) w'
    rw [hds]
    refine leaves_marks (by simp) bs ρ' w' hnd hall H' r fun ρ2 w2 e1 e2 H2 => ?_
    exact ⟨ρ2, h', v, v', e2, H2, hv.eqv e1, .inr ⟨rfl, q.2.2⟩⟩
theorem acalls_of_W {f : FuncId} {fn : Func} {c : Code} {args : Array Value} {Qr : Value → Heap → Prop} (hf : P.funcs[f]? = some fn) (hb : fn.body = some c) (hok : codeOk P fn.ntmps c = true)
    (hr : resOk fn.ntmps fn.results = true) (hsz : args.size ≤ fn.ntmps) (hw : W P fn.ntmps c (retK P fn.results Qr (fun _ _ => False)) (atm args) h) : ACalls P f args h Qr := acallsX_of_W hf hb hok hr hsz hw
end
end Go.Proofs.YthmpaddhmgnkbaaDoor.Am
end
section
/- The frame Am, a text beside the others: regions that draw their order. Nothing of a program stands here. -/
set_option linter.unusedVariables false
set_option linter.unusedSimpArgs false
namespace Go.Proofs.YthmpaddhmgnkbaaDoor.Am
open Go Go.RowKit

/-- The edges that bind. -/
def preds (o : Oper) : List Nat := (o.after.toList.filter (Region.binds .any)).map (·.on)
def looks (ops : Array Oper) (o : Oper) : List Tmp := Oper.looksAt ops o
/-- The value of an operation, its guard included. -/
def aval (P : Program) (ops : Array Oper) (tm : Tm) (h : Heap) (o : Oper) : Option Value :=
  match o.guard with
  | none => aop P tm h o.op
  | some (j, want) => (match gval ops tm j with
    | some b => if b = want then aop P tm h o.op else some undef
    | none => some undef)

section
variable {P : Program} {w0 w : World} {ρ : Ren} {h : Heap} {n : Nat} {tm : Tm} {a : Act} {Q : Exit → Tm → Heap → Prop} {ops : Array Oper}
/-- The tables agree on what an operation looks at. -/
theorem ev_congr {tm tm' : Tm} {x : Operand} (hx : ∀ t, x = .tmp t → tm t = tm' t) : ev tm x = ev tm' x := by
  cases x with
  | tmp t => exact hx t rfl
  | _ => rfl
theorem mem_looks_of {o : Oper} {t : Tmp} (ht : Operand.tmp t ∈ o.op.operands) : t ∈ looks ops o := by
  simp only [looks, Oper.looksAt, List.mem_append, List.mem_filterMap]
  exact .inl ⟨.tmp t, by simpa using ht, rfl⟩
theorem evs_congr {tm tm' : Tm} {o : Oper} (hl : ∀ t, t ∈ looks ops o → tm t = tm' t) {x : Operand} (hx : x ∈ o.op.operands) : ev tm x = ev tm' x :=
  ev_congr fun t ht => hl t (mem_looks_of (by rw [← ht]; exact hx))
theorem gval_congr {tm tm' : Tm} {o : Oper} (hl : ∀ t, t ∈ looks ops o → tm t = tm' t) {j : Nat} {want : Bool} (hg : o.guard = some (j, want)) : gval ops tm j = gval ops tm' j := by
  unfold gval
  cases hd : (ops[j]?).bind (·.dst) with
  | none => rfl
  | some d =>
    simp only
    rw [hl d]
    simp only [looks, Oper.looksAt, List.mem_append]
    right
    rw [hg]; simp [hd]
theorem amap_congr {α β : Type} {f g : α → β} {xs : Array α} (h : ∀ x, x ∈ xs → f x = g x) : xs.map f = xs.map g := by
  apply Array.ext'
  simp only [Array.toList_map]
  exact List.map_congr_left fun x hx => h x (by simpa using hx)
theorem omap_congr {α β : Type} {f g : α → β} {xs : Option α} (h : ∀ x, xs = some x → f x = g x) : xs.map f = xs.map g := by
  cases xs with
  | none => rfl
  | some x => simp [h x rfl]
theorem aop_congr {tm tm' : Tm} {o : Oper} (hl : ∀ t, t ∈ looks ops o → tm t = tm' t) : aop P tm h o.op = aop P tm' h o.op := by
  have he : ∀ x, x ∈ o.op.operands → ev tm x = ev tm' x := fun x hx => evs_congr hl hx
  obtain ⟨dst, op, ty, pos, aft, g⟩ := o
  simp only at he ⊢
  cases op with
  | call c =>
    obtain ⟨callee, args, ts⟩ := c
    cases callee with
    | builtin b => simp only [aop]; rw [amap_congr fun x hx => he x (by simp [Op.operands, Call.operands, hx])]
    | _ => rfl
  | build t parts =>
    simp only [aop]
    rw [amap_congr (f := fun x : Nat × Operand => (x.1, ev tm x.2)) (g := fun x : Nat × Operand => (x.1, ev tm' x.2)) fun x hx => by
      rw [he x.2 (by simp only [Op.operands, List.mem_toArray, List.mem_map]; exact ⟨x, by simpa using hx, rfl⟩)]]
  | makeFunc fn fi ca =>
    simp only [aop]
    rw [amap_congr fun x hx => he x (by simp [Op.operands, hx]), amap_congr (xs := ca) fun x hx => he x (by simp [Op.operands, hx])]
  | slice t x lo hi mx =>
    simp only [aop]
    rw [he x (by simp [Op.operands]), omap_congr (xs := lo) fun y hy => he y (by simp [Op.operands, hy]), omap_congr (xs := hi) fun y hy => he y (by simp [Op.operands, hy]), omap_congr (xs := mx) fun y hy => he y (by simp [Op.operands, hy])]
  | move x => simp only [aop]; rw [he x (by simp [Op.operands])]
  | assign x => simp only [aop]; rw [he x (by simp [Op.operands])]
  | pick c x y => simp only [aop]; rw [he c (by simp [Op.operands]), he x (by simp [Op.operands]), he y (by simp [Op.operands])]
  | load t x => simp only [aop]; rw [he x (by simp [Op.operands])]
  | nilCheck x => simp only [aop]; rw [he x (by simp [Op.operands])]
  | binOp op t x y t2 => simp only [aop]; rw [he x (by simp [Op.operands]), he y (by simp [Op.operands])]
  | unOp op t x => simp only [aop]; rw [he x (by simp [Op.operands])]
  | convert s d x => simp only [aop]; rw [he x (by simp [Op.operands])]
  | makeInterface t x => simp only [aop]; rw [he x (by simp [Op.operands])]
  | fieldAddr t x f => simp only [aop]; rw [he x (by simp [Op.operands])]
  | field t x f => simp only [aop]; rw [he x (by simp [Op.operands])]
  | indexAddr t x y => simp only [aop]; rw [he x (by simp [Op.operands]), he y (by simp [Op.operands])]
  | index t x y => simp only [aop]; rw [he x (by simp [Op.operands]), he y (by simp [Op.operands])]
  | extract x i => simp only [aop]; rw [he x (by simp [Op.operands])]
  | _ => rfl
theorem aval_congr {tm tm' : Tm} {o : Oper} (hl : ∀ t, t ∈ looks ops o → tm t = tm' t) : aval P ops tm h o = aval P ops tm' h o := by
  unfold aval
  split
  · exact aop_congr hl
  · rename_i j want hg
    rw [gval_congr hl hg, aop_congr hl]
theorem aeff_congr {tm tm' : Tm} {o : Oper} (hl : ∀ t, t ∈ looks ops o → tm t = tm' t) : aeff P tm h o.op = aeff P tm' h o.op := by
  have he : ∀ x, x ∈ o.op.operands → ev tm x = ev tm' x := fun x hx => evs_congr hl hx
  obtain ⟨dst, op, ty, pos, aft, g⟩ := o
  simp only at he ⊢
  cases op with
  | call c =>
    obtain ⟨callee, args, ts⟩ := c
    cases callee with
    | builtin b =>
      cases b with
      | append =>
        simp only [aeff]
        split
        · rename_i s x t t2 h1 h2
          have hs : s ∈ args := by rw [← Array.mem_toList_iff, h1]; simp
          have hx : x ∈ args := by rw [← Array.mem_toList_iff, h1]; simp
          rw [he s (by simp [Op.operands, Call.operands, hs]), he x (by simp [Op.operands, Call.operands, hx])]
        · rfl
      | len =>
        simp only [aeff]
        split
        · rename_i x t h1 h2
          have hx : x ∈ args := by rw [← Array.mem_toList_iff, h1]; simp
          rw [he x (by simp [Op.operands, Call.operands, hx])]
        · rfl
      | clear =>
        simp only [aeff]
        split
        · rename_i x t h1 h2
          have hx : x ∈ args := by rw [← Array.mem_toList_iff, h1]; simp
          rw [he x (by simp [Op.operands, Call.operands, hx])]
        · rfl
      | copy =>
        simp only [aeff]
        split
        · rename_i s x t t2 h1 h2
          have hs : s ∈ args := by rw [← Array.mem_toList_iff, h1]; simp
          have hx : x ∈ args := by rw [← Array.mem_toList_iff, h1]; simp
          rw [he s (by simp [Op.operands, Call.operands, hs]), he x (by simp [Op.operands, Call.operands, hx])]
        · rfl
      | delete =>
        simp only [aeff]
        split
        · rename_i s x t t2 h1 h2
          have hs : s ∈ args := by rw [← Array.mem_toList_iff, h1]; simp
          have hx : x ∈ args := by rw [← Array.mem_toList_iff, h1]; simp
          rw [he s (by simp [Op.operands, Call.operands, hs]), he x (by simp [Op.operands, Call.operands, hx])]
        · rfl
      | _ => rfl
    | _ => rfl
  | lookup t m k ok => simp only [aeff]; rw [he m (by simp [Op.operands]), he k (by simp [Op.operands])]
  | mapUpdate t m k x => simp only [aeff]; rw [he m (by simp [Op.operands]), he k (by simp [Op.operands]), he x (by simp [Op.operands])]
  | convert s t x => simp only [aeff]; rw [he x (by simp [Op.operands])]
  | makeMap t r => cases r <;> rfl
  | buildSlice t l parts =>
    simp only [aeff]
    rw [amap_congr (f := fun x : Nat × Operand => (x.1, ev tm x.2)) (g := fun x : Nat × Operand => (x.1, ev tm' x.2)) fun x hx => by
      rw [he x.2 (by simp only [Op.operands, List.mem_toArray, List.mem_map]; exact ⟨x, by simpa using hx, rfl⟩)]]
  | box e x => simp only [aeff]; rw [he x (by simp [Op.operands])]
  | makeSlice t x y => simp only [aeff]; rw [he x (by simp [Op.operands]), he y (by simp [Op.operands])]
  | store t x y => simp only [aeff]; rw [he x (by simp [Op.operands]), he y (by simp [Op.operands])]
  | _ => rfl
end
end Go.Proofs.YthmpaddhmgnkbaaDoor.Am
end
section
/- The frame Am, twelfth text: the equations by which a walk goes on, operation by operation. Nothing of a program stands here. -/
set_option linter.unusedVariables false
set_option linter.unusedSimpArgs false
namespace Go.Proofs.YthmpaddhmgnkbaaDoor.Am
open Go Go.RowKit

def nextK (P : Program) (all : Array Oper) (Q : Exit → Tm → Heap → Prop) (rest : List Oper) (tm : Tm) (d : Option Tmp) (h : Heap) (v : Value) : Prop := aops P all Q rest (aput tm d v) h
def nextH (P : Program) (all : Array Oper) (Q : Exit → Tm → Heap → Prop) (rest : List Oper) (tm : Tm) (d : Option Tmp) (v : Value) (h : Heap) : Prop := aops P all Q rest (aput tm d v) h
def panicK (Q : Exit → Tm → Heap → Prop) (tm : Tm) (v : Value) (h : Heap) : Prop := Q (raised v) tm h
def optK (o : Option Value) (K : Value → Prop) : Prop := match o with | some v => K v | none => False
def optH (o : Option (Value × Heap)) (K : Value → Heap → Prop) : Prop := match o with | some (v, h) => K v h | none => False
theorem optK_some {v : Value} {K : Value → Prop} : optK (some v) K = K v := propext Iff.rfl
theorem optH_some {v : Value} {h : Heap} {K : Value → Heap → Prop} : optH (some (v, h)) K = K v h := propext Iff.rfl
theorem nextK_eq {P all Q rest tm d h v} : nextK P all Q rest tm d h v = aops P all Q rest (aput tm d v) h := propext Iff.rfl
theorem nextH_eq {P all Q rest tm d h v} : nextH P all Q rest tm d v h = aops P all Q rest (aput tm d v) h := propext Iff.rfl
def condK (v : Value) (A B : Tm → Heap → Prop) (tm : Tm) (h : Heap) : Prop := match v with | .bool t => (t = true → A tm h) ∧ (t = false → B tm h) | _ => False
theorem condK_true {A B : Tm → Heap → Prop} {tm : Tm} {h : Heap} : condK (.bool true) A B tm h = A tm h := by simp [condK]
theorem condK_false {A B : Tm → Heap → Prop} {tm : Tm} {h : Heap} : condK (.bool false) A B tm h = B tm h := by simp [condK]
theorem condK_split {t : Bool} {A B : Tm → Heap → Prop} {tm : Tm} {h : Heap} (h1 : t = true → A tm h) (h2 : t = false → B tm h) : condK (.bool t) A B tm h := ⟨h1, h2⟩
theorem condK_dec {p : Prop} [Decidable p] {A B : Tm → Heap → Prop} {tm : Tm} {h : Heap} (h1 : p → A tm h) (h2 : ¬ p → B tm h) : condK (.bool (decide p)) A B tm h := ⟨fun h => h1 (of_decide_eq_true h), fun h => h2 (of_decide_eq_false h)⟩
/-- The gate of a guarded operation: nothing behind it is looked at before it is known which way. -/
def gateO (b : Option Bool) (want : Bool) (P : Program) (all : Array Oper) (Q : Exit → Tm → Heap → Prop) (o : Oper) (rest : List Oper) (tm : Tm) (h : Heap) : Prop :=
  match b with
  | some b => (b = want → aops P all Q (o :: rest) tm h) ∧ (b = (!want) → aops P all Q rest (aput tm o.dst undef) h)
  | none => aops P all Q rest (aput tm o.dst undef) h
theorem boolOf_bool {b : Bool} : boolOf (.bool b) = some b := rfl
theorem boolOf_undef : boolOf undef = none := rfl

section
variable {P : Program} {n : Nat} {all : Array Oper} {Q : Exit → Tm → Heap → Prop} {rest : List Oper} {tm : Tm} {h : Heap} {d : Option Tmp} {ty : TypeId} {pos : String} {aft : Array Edge}
theorem W_skip : W P n .skip Q tm h = Q .normal tm h := propext Iff.rfl
theorem W_scope {a : Code} : W P n (.scope a) Q tm h = W P n a Q tm h := propext Iff.rfl
theorem W_label {l : Nat} : W P n (.label l) Q tm h = Q .normal tm h := propext Iff.rfl
theorem W_seq {a b : Code} : W P n (.seq a b) Q tm h = W P n a (thenK (W P n b Q) Q) tm h := propext Iff.rfl
theorem W_region {id : Nat} {ops : Array Oper} : W P n (.region id ops false) Q tm h = aops P ops Q ops.toList tm h := propext Iff.rfl
theorem W_draw {id : Nat} {ops : Array Oper} : W P n (.region id ops true) Q tm h = ADraw P n ops Q tm h := propext Iff.rfl
theorem W_cond {c : Operand} {a b : Code} : W P n (.cond c a b) Q tm h = condK (ev tm c) (W P n a Q) (W P n b Q) tm h := propext Iff.rfl
theorem W_block {id : Nat} {b : Code} : W P n (.block id b) Q tm h = W P n b (blockK id Q) tm h := propext Iff.rfl
theorem W_exit {id : Nat} : W P n (.exit id) Q tm h = Q (.exit id) tm h := propext Iff.rfl
theorem W_ret : W P n .ret Q tm h = Q .ret tm h := propext Iff.rfl
theorem W_loop {b : Code} (I : Tm → Heap → Prop) (μ : Tm → Heap → Nat) (h0 : I tm h) (hr : ∀ tm h, I tm h → W P n b (thenK (fun tm' h' => I tm' h' ∧ μ tm' h' < μ tm h) Q) tm h) : W P n (.loop b) Q tm h := ⟨I, μ, h0, hr⟩
theorem thenK_normal {K : Tm → Heap → Prop} : thenK K Q .normal tm h = K tm h := propext Iff.rfl
theorem thenK_ret {K : Tm → Heap → Prop} : thenK K Q .ret tm h = Q .ret tm h := propext Iff.rfl
theorem thenK_exit {K : Tm → Heap → Prop} {i : Nat} : thenK K Q (.exit i) tm h = Q (.exit i) tm h := propext Iff.rfl
theorem thenK_raised {K : Tm → Heap → Prop} {v : Value} : thenK K Q (raised v) tm h = Q (raised v) tm h := propext Iff.rfl
theorem blockK_normal {i : Nat} : blockK i Q .normal tm h = Q .normal tm h := propext Iff.rfl
theorem blockK_ret {i : Nat} : blockK i Q .ret tm h = Q .ret tm h := propext Iff.rfl
theorem blockK_exit {i j : Nat} : blockK i Q (.exit j) tm h = if j = i then Q .normal tm h else Q (.exit j) tm h := propext Iff.rfl
theorem blockK_raised {i : Nat} {v : Value} : blockK i Q (raised v) tm h = Q (raised v) tm h := propext Iff.rfl
theorem retK_normal {rs Qr Qp} : retK P rs Qr Qp .normal tm h = optV (resOf P h tm rs) (fun v => Qr v h) := propext Iff.rfl
theorem retK_ret {rs Qr Qp} : retK P rs Qr Qp .ret tm h = optV (resOf P h tm rs) (fun v => Qr v h) := propext Iff.rfl
theorem retK_raised {rs Qr Qp} {v : Value} : retK P rs Qr Qp (raised v) tm h = Qp v h := by simp [retK, raised]
theorem optV_eq {v : Value} {K : Value → Prop} : optV (some v) K = K v := propext Iff.rfl
theorem panicK_eq {v : Value} : panicK Q tm v h = Q (raised v) tm h := propext Iff.rfl
def cellV (P : Program) (h : Heap) (t : TypeId) (p : Value) : Option Value := match p with | .pointer (some x) => aload P h t x | _ => none
theorem cellV_ptr {t : TypeId} {a : Addr} : cellV P h t (.pointer (some a)) = aload P h t a := rfl
theorem resV_cell {t a : Nat} : resV P h tm (.cell a t) = cellV P h t (tm a) := rfl
theorem resOf_one {t : Nat} : resOf P h tm #[.tmp t] = some (tm t) := rfl
theorem resOf_cell {t a : Nat} : resOf P h tm #[.cell a t] = cellV P h t (tm a) := rfl
theorem resOf_two {t u : Nat} : resOf P h tm #[.tmp t, .tmp u] = some (.tuple #[tm t, tm u]) := rfl
theorem resOf_three {t u x : Nat} : resOf P h tm #[.tmp t, .tmp u, .tmp x] = some (.tuple #[tm t, tm u, tm x]) := rfl
theorem resOf_four {t u x y : Nat} : resOf P h tm #[.tmp t, .tmp u, .tmp x, .tmp y] = some (.tuple #[tm t, tm u, tm x, tm y]) := rfl
def tupV (a b : Option Value) : Option Value := match a, b with | some x, some y => some (.tuple #[x, y]) | _, _ => none
theorem tupV_some {x y : Value} : tupV (some x) (some y) = some (.tuple #[x, y]) := rfl
theorem resOf_ct {t a u : Nat} : resOf P h tm #[.cell a t, .tmp u] = tupV (cellV P h t (tm a)) (some (tm u)) := by
  show (match resList P h tm [.cell a t, .tmp u] with | some l => some (Value.tuple l.toArray) | none => none) = _
  simp only [resList, resV_cell, show resV P h tm (.tmp u) = some (tm u) from rfl]
  cases cellV P h t (tm a) <;> rfl
theorem resOf_tc {t a u : Nat} : resOf P h tm #[.tmp u, .cell a t] = tupV (some (tm u)) (cellV P h t (tm a)) := by
  show (match resList P h tm [.tmp u, .cell a t] with | some l => some (Value.tuple l.toArray) | none => none) = _
  simp only [resList, resV_cell, show resV P h tm (.tmp u) = some (tm u) from rfl]
  cases cellV P h t (tm a) <;> rfl
theorem resOf_none : resOf P h tm #[] = some (.tuple #[]) := rfl
theorem ev_tmp {t : Nat} : ev tm (.tmp t) = tm t := rfl
theorem ev_const {v : Value} : ev tm (.const v) = v := rfl
theorem ev_func {f : FuncId} : ev tm (.func f) = .func (.func f) #[] #[] := rfl
theorem ev_global {g : Nat} : ev tm (.global g) = .pointer (some ⟨g, 0, none⟩) := rfl
theorem aput_get {t d : Nat} {v : Value} : aput tm (some d) v t = if t = d then v else tm t := rfl
theorem aput_none {v : Value} : aput tm none v = tm := rfl
theorem aops_nil : aops P all Q [] tm h = Q .normal tm h := propext Iff.rfl
/-- A guarded operation is one without a guard behind its gate. -/
theorem aops_guard {op : Op} {j : Nat} {want : Bool} : aops P all Q ({ dst := d, op := op, type := ty, pos := pos, after := aft, guard := some (j, want) } :: rest) tm h =
    gateO (gval all tm j) want P all Q { dst := d, op := op, type := ty, pos := pos, after := aft, guard := none } rest tm h := propext Iff.rfl
theorem gateO_tt {o : Oper} : gateO (some true) true P all Q o rest tm h = aops P all Q (o :: rest) tm h := by simp [gateO]
theorem gateO_ff {o : Oper} : gateO (some false) false P all Q o rest tm h = aops P all Q (o :: rest) tm h := by simp [gateO]
theorem gateO_tf {o : Oper} : gateO (some true) false P all Q o rest tm h = aops P all Q rest (aput tm o.dst undef) h := by simp [gateO]
theorem gateO_ft {o : Oper} : gateO (some false) true P all Q o rest tm h = aops P all Q rest (aput tm o.dst undef) h := by simp [gateO]
theorem gateO_none {o : Oper} {w : Bool} : gateO none w P all Q o rest tm h = aops P all Q rest (aput tm o.dst undef) h := propext Iff.rfl
theorem gateO_split {o : Oper} {b w : Bool} (h1 : b = w → aops P all Q (o :: rest) tm h) (h2 : b = (!w) → aops P all Q rest (aput tm o.dst undef) h) : gateO (some b) w P all Q o rest tm h := ⟨h1, h2⟩
theorem aops_move {x : Operand} : aops P all Q ({ dst := d, op := .move x, type := ty, pos := pos, after := aft, guard := none } :: rest) tm h = aops P all Q rest (aput tm d (ev tm x)) h := propext Iff.rfl
theorem aops_assign {x : Operand} : aops P all Q ({ dst := d, op := .assign x, type := ty, pos := pos, after := aft, guard := none } :: rest) tm h = aops P all Q rest (aput tm d (ev tm x)) h := propext Iff.rfl
def pickV (c a b : Value) : Option Value := match c with | .bool t => some (if t = true then a else b) | _ => none
theorem pickV_bool {t : Bool} {a b : Value} : pickV (.bool t) a b = some (if t = true then a else b) := rfl
theorem aops_of {op : Op} {o : Option Value} (ho : aop P tm h op = o) (he : aeff P tm h op = none) (hc : callOf op = none) (hp : panicOf op = none := by rfl) (ha : assertV P tm op = none := by rfl) (hi : invV P tm h op = none := by rfl) :
    aops P all Q ({ dst := d, op := op, type := ty, pos := pos, after := aft, guard := none } :: rest) tm h = optK o (nextK P all Q rest tm d h) := by
  subst ho
  simp only [aops, gate, stepK, stepV, hc]
  cases ho : aop P tm h op with
  | none => simp only [he, hp, ha, hi, optK]
  | some v => rfl
theorem aops_eff {op : Op} {o : Option (Value × Heap)} (ho : aeff P tm h op = o) (he : aop P tm h op = none) (hc : callOf op = none) (hp : panicOf op = none := by rfl) (ha : assertV P tm op = none := by rfl) (hi : invV P tm h op = none := by rfl) :
    aops P all Q ({ dst := d, op := op, type := ty, pos := pos, after := aft, guard := none } :: rest) tm h = optH o (nextH P all Q rest tm d) := by
  subst ho
  simp only [aops, gate, stepK, stepV, hc, he]
  cases ho : aeff P tm h op with
  | none => simp only [hp, ha, hi, optH]
  | some v => rfl
theorem aops_pick {c x y : Operand} : aops P all Q ({ dst := d, op := .pick c x y, type := ty, pos := pos, after := aft, guard := none } :: rest) tm h = optK (pickV (ev tm c) (ev tm x) (ev tm y)) (nextK P all Q rest tm d h) := aops_of rfl rfl rfl
def loadV (P : Program) (h : Heap) (t : TypeId) (p : Value) : Option Value := match p with | .pointer (some x) => aload P h t x | _ => none
theorem loadV_ptr {t : TypeId} {a : Addr} : loadV P h t (.pointer (some a)) = aload P h t a := rfl
theorem aops_load {t : TypeId} {x : Operand} : aops P all Q ({ dst := d, op := .load t x, type := ty, pos := pos, after := aft, guard := none } :: rest) tm h = optK (loadV P h t (ev tm x)) (nextK P all Q rest tm d h) := aops_of rfl rfl rfl
def nilV (p : Value) : Option Value := match p with | .pointer (some a) => some (.pointer (some a)) | _ => none
theorem nilV_ptr {a : Addr} : nilV (.pointer (some a)) = some (.pointer (some a)) := rfl
theorem aops_nilCheck {x : Operand} : aops P all Q ({ dst := d, op := .nilCheck x, type := ty, pos := pos, after := aft, guard := none } :: rest) tm h = optK (nilV (ev tm x)) (nextK P all Q rest tm d h) := aops_of rfl rfl rfl
theorem aops_binOp {op : BinOp} {t t2 : TypeId} {x y : Operand} : aops P all Q ({ dst := d, op := .binOp op t x y t2, type := ty, pos := pos, after := aft, guard := none } :: rest) tm h = optK (orV (abin P op t (ev tm x) (ev tm y)) (anilC P op t x y (ev tm x) (ev tm y))) (nextK P all Q rest tm d h) := aops_of rfl rfl rfl
theorem aops_unOp {op : UnOp} {t : TypeId} {x : Operand} : aops P all Q ({ dst := d, op := .unOp op t x, type := ty, pos := pos, after := aft, guard := none } :: rest) tm h = optK (aun op (ev tm x)) (nextK P all Q rest tm d h) := aops_of rfl rfl rfl
def convM (c : Option Value) (e : Option (Value × Heap)) (K : Value → Prop) (KH : Value → Heap → Prop) : Prop := match c with | some v => K v | none => optH e KH
theorem convM_some {v : Value} {e : Option (Value × Heap)} {K : Value → Prop} {KH : Value → Heap → Prop} : convM (some v) e K KH = K v := rfl
theorem convM_none {e : Option (Value × Heap)} {K : Value → Prop} {KH : Value → Heap → Prop} : convM none e K KH = optH e KH := rfl
theorem aops_convert {s t : TypeId} {x : Operand} : aops P all Q ({ dst := d, op := .convert s t x, type := ty, pos := pos, after := aft, guard := none } :: rest) tm h = convM (aconv P h s t (ev tm x)) (aconvE P h s t (ev tm x)) (nextK P all Q rest tm d h) (nextH P all Q rest tm d) := by
  simp only [aops, gate, stepK, stepV, callOf]
  have e1 : aop P tm h (.convert s t x) = aconv P h s t (ev tm x) := rfl
  have e2 : aeff P tm h (.convert s t x) = aconvE P h s t (ev tm x) := rfl
  rw [e1, e2]
  cases aconv P h s t (ev tm x) with
  | some v => rfl
  | none =>
    cases aconvE P h s t (ev tm x) with
    | none => rfl
    | some v => rfl
theorem aops_lookup {t : TypeId} {m k : Operand} {ok : Bool} : aops P all Q ({ dst := d, op := .lookup t m k ok, type := ty, pos := pos, after := aft, guard := none } :: rest) tm h = optH (alookupM P h t (ev tm m) (ev tm k) ok) (nextH P all Q rest tm d) := aops_eff rfl rfl rfl
theorem aops_mapUpdate {t : TypeId} {m k x : Operand} : aops P all Q ({ dst := d, op := .mapUpdate t m k x, type := ty, pos := pos, after := aft, guard := none } :: rest) tm h = optH (amapUpdateM P h t (ev tm m) (ev tm k) (ev tm x)) (nextH P all Q rest tm d) := aops_eff rfl rfl rfl
theorem aops_makeMap {t : TypeId} : aops P all Q ({ dst := d, op := .makeMap t none, type := ty, pos := pos, after := aft, guard := none } :: rest) tm h = optH (amakeMapM P h t) (nextH P all Q rest tm d) := aops_eff rfl rfl rfl
theorem aops_clear {x : Operand} {t : TypeId} : aops P all Q ({ dst := d, op := .call { callee := .builtin .clear, args := #[x], argTypes := #[t] }, type := ty, pos := pos, after := aft, guard := none } :: rest) tm h = optH (aclear P h t (ev tm x)) (nextH P all Q rest tm d) := aops_eff rfl rfl rfl
theorem aops_copy {x y : Operand} {t t2 : TypeId} : aops P all Q ({ dst := d, op := .call { callee := .builtin .copy, args := #[x, y], argTypes := #[t, t2] }, type := ty, pos := pos, after := aft, guard := none } :: rest) tm h = optH (acopy P h t (ev tm x) (ev tm y)) (nextH P all Q rest tm d) := aops_eff rfl rfl rfl
theorem aops_delete {x y : Operand} {t t2 : TypeId} : aops P all Q ({ dst := d, op := .call { callee := .builtin .delete, args := #[x, y], argTypes := #[t, t2] }, type := ty, pos := pos, after := aft, guard := none } :: rest) tm h = optH (adeleteM P h t (ev tm x) (ev tm y)) (nextH P all Q rest tm d) := aops_eff rfl rfl rfl
theorem aops_slice {t : TypeId} {x : Operand} {lo hi mx : Option Operand} : aops P all Q ({ dst := d, op := .slice t x lo hi mx, type := ty, pos := pos, after := aft, guard := none } :: rest) tm h = optK (aslice P h t (ev tm x) (lo.map (ev tm)) (hi.map (ev tm)) (mx.map (ev tm))) (nextK P all Q rest tm d h) := aops_of rfl rfl rfl
theorem aops_fieldAddr {t : TypeId} {x : Operand} {f : Nat} : aops P all Q ({ dst := d, op := .fieldAddr t x f, type := ty, pos := pos, after := aft, guard := none } :: rest) tm h = optK (afieldAddr P t (ev tm x) f) (nextK P all Q rest tm d h) := aops_of rfl rfl rfl
theorem aops_field {t : TypeId} {x : Operand} {f : Nat} : aops P all Q ({ dst := d, op := .field t x f, type := ty, pos := pos, after := aft, guard := none } :: rest) tm h = optK (afield P t (ev tm x) f) (nextK P all Q rest tm d h) := aops_of rfl rfl rfl
theorem aops_indexAddr {t : TypeId} {x i : Operand} : aops P all Q ({ dst := d, op := .indexAddr t x i, type := ty, pos := pos, after := aft, guard := none } :: rest) tm h = optK (aindexAddr P t (ev tm x) (ev tm i)) (nextK P all Q rest tm d h) := aops_of rfl rfl rfl
theorem aops_index {t : TypeId} {x i : Operand} : aops P all Q ({ dst := d, op := .index t x i, type := ty, pos := pos, after := aft, guard := none } :: rest) tm h = optK (aindex P t (ev tm x) (ev tm i)) (nextK P all Q rest tm d h) := aops_of rfl rfl rfl
def extV (v : Value) (i : Nat) : Option Value := match v with | .tuple vs => vs[i]? | _ => none
theorem extV_tuple {l : List Value} {i : Nat} : extV (.tuple l.toArray) i = l[i]? := by simp [extV]
theorem aops_extract {x : Operand} {i : Nat} : aops P all Q ({ dst := d, op := .extract x i, type := ty, pos := pos, after := aft, guard := none } :: rest) tm h = optK (extV (ev tm x) i) (nextK P all Q rest tm d h) := aops_of rfl rfl rfl
theorem aops_build {t : TypeId} {ps : Array (Nat × Operand)} : aops P all Q ({ dst := d, op := .build t ps, type := ty, pos := pos, after := aft, guard := none } :: rest) tm h = optK (abuild P t (ps.map fun (i, x) => (i, ev tm x))) (nextK P all Q rest tm d h) := aops_of rfl rfl rfl
theorem aops_makeInterface {t : TypeId} {x : Operand} : aops P all Q ({ dst := d, op := .makeInterface t x, type := ty, pos := pos, after := aft, guard := none } :: rest) tm h = optK (if P.concrete t = true then some (.iface t (ev tm x)) else none) (nextK P all Q rest tm d h) := aops_of rfl rfl rfl
theorem aops_len {x : Operand} {t : TypeId} : aops P all Q ({ dst := d, op := .call { callee := .builtin .len, args := #[x], argTypes := #[t] }, type := ty, pos := pos, after := aft, guard := none } :: rest) tm h = convM (abuiltin P .len #[t] (#[x].map (ev tm))) (alenMap P h t (ev tm x)) (nextK P all Q rest tm d h) (nextH P all Q rest tm d) := by
  simp only [aops, gate, stepK, stepV, callOf]
  have e1 : aop P tm h (.call { callee := .builtin .len, args := #[x], argTypes := #[t] }) = abuiltin P .len #[t] (#[x].map (ev tm)) := rfl
  have e2 : aeff P tm h (.call { callee := .builtin .len, args := #[x], argTypes := #[t] }) = alenMap P h t (ev tm x) := rfl
  rw [e1, e2]
  cases abuiltin P .len #[t] (#[x].map (ev tm)) with
  | some v => rfl
  | none =>
    cases alenMap P h t (ev tm x) with
    | none => rfl
    | some v => rfl
theorem aops_min {args : Array Operand} {ts : Array TypeId} : aops P all Q ({ dst := d, op := .call { callee := .builtin .min, args := args, argTypes := ts }, type := ty, pos := pos, after := aft, guard := none } :: rest) tm h = optK (abuiltin P .min ts (args.map (ev tm))) (nextK P all Q rest tm d h) := aops_of rfl rfl rfl
theorem aops_max {args : Array Operand} {ts : Array TypeId} : aops P all Q ({ dst := d, op := .call { callee := .builtin .max, args := args, argTypes := ts }, type := ty, pos := pos, after := aft, guard := none } :: rest) tm h = optK (abuiltin P .max ts (args.map (ev tm))) (nextK P all Q rest tm d h) := aops_of rfl rfl rfl
theorem aops_alloc {e : TypeId} : aops P all Q ({ dst := d, op := .alloc e, type := ty, pos := pos, after := aft, guard := none } :: rest) tm h = optH (aeff P tm h (.alloc e)) (nextH P all Q rest tm d) := aops_eff rfl rfl rfl
theorem aops_box {e : TypeId} {x : Operand} : aops P all Q ({ dst := d, op := .box e x, type := ty, pos := pos, after := aft, guard := none } :: rest) tm h = optH (aeff P tm h (.box e x)) (nextH P all Q rest tm d) := aops_eff rfl rfl rfl
theorem aops_buildSlice {t : TypeId} {l : Nat} {ps : Array (Nat × Operand)} : aops P all Q ({ dst := d, op := .buildSlice t l ps, type := ty, pos := pos, after := aft, guard := none } :: rest) tm h = optH (abuildSlice P h t l (ps.map fun (i, x) => (i, ev tm x))) (nextH P all Q rest tm d) := aops_eff rfl rfl rfl
theorem aops_makeSlice {t : TypeId} {l c : Operand} : aops P all Q ({ dst := d, op := .makeSlice t l c, type := ty, pos := pos, after := aft, guard := none } :: rest) tm h = optH (amakeSlice P h t (ev tm l) (ev tm c)) (nextH P all Q rest tm d) := aops_eff rfl rfl rfl
def storeV (P : Program) (h : Heap) (t : TypeId) (p v : Value) : Option (Value × Heap) := match astore P h t p v with | some h' => some (undef, h') | none => none
theorem aops_store {t : TypeId} {p x : Operand} : aops P all Q ({ dst := d, op := .store t p x, type := ty, pos := pos, after := aft, guard := none } :: rest) tm h = optH (storeV P h t (ev tm p) (ev tm x)) (nextH P all Q rest tm d) := aops_eff rfl rfl rfl
theorem aops_append {s x : Operand} {t t2 : TypeId} : aops P all Q ({ dst := d, op := .call { callee := .builtin .append, args := #[s, x], argTypes := #[t, t2] }, type := ty, pos := pos, after := aft, guard := none } :: rest) tm h = optH (aappend P h t t2 (ev tm s) (ev tm x)) (nextH P all Q rest tm d) := aops_eff rfl rfl rfl
theorem aops_call {g : FuncId} {args : Array Operand} {ts : Array TypeId} (hb : hasBody P g = true) : aops P all Q ({ dst := d, op := .call { callee := .value (.func g), args := args, argTypes := ts }, type := ty, pos := pos, after := aft, guard := none } :: rest) tm h =
    ACallsX P g (args.map (ev tm)) h (nextH P all Q rest tm d) (panicK Q tm) := by
  simp only [aops, gate, stepK, stepV, callOf, ev, hb, true_and, Array.empty_append, Array.append_empty]
  rfl
/-- A method that is called through an interface. -/
def invK (P : Program) (o : Option (FuncId × Value)) (args : Array Value) (h : Heap) (R X : Value → Heap → Prop) : Prop :=
  match o with
  | some (g, r) => hasBody P g = true ∧ ACallsX P g (#[r] ++ args) h R X
  | none => False
theorem invK_some {g : FuncId} {r : Value} {args : Array Value} {R X : Value → Heap → Prop} : invK P (some (g, r)) args h R X = (hasBody P g = true ∧ ACallsX P g (#[r] ++ args) h R X) := rfl
theorem aops_invoke {x : Operand} {name : String} {args : Array Operand} {ts : Array TypeId} : aops P all Q ({ dst := d, op := .call { callee := .invoke x name, args := args, argTypes := ts }, type := ty, pos := pos, after := aft, guard := none } :: rest) tm h =
    invK P (invG P h name (ev tm x)) (args.map (ev tm)) h (nextH P all Q rest tm d) (panicK Q tm) := by
  have e1 : aop P tm h (.call { callee := .invoke x name, args := args, argTypes := ts }) = none := rfl
  have e2 : aeff P tm h (.call { callee := .invoke x name, args := args, argTypes := ts }) = none := rfl
  simp only [aops, gate, stepK, stepV, callOf, e1, e2, panicOf, assertV, invV]
  cases invG P h name (ev tm x) with
  | none => rfl
  | some c => rfl
theorem aops_makeFunc {g : FuncId} {fi ca : Array Operand} : aops P all Q ({ dst := d, op := .makeFunc (.func g) fi ca, type := ty, pos := pos, after := aft, guard := none } :: rest) tm h = optK (some (.func (.func g) (fi.map (ev tm)) (ca.map (ev tm)))) (nextK P all Q rest tm d h) := aops_of rfl rfl rfl
def callV (P : Program) (v : Value) (args : Array Value) (h : Heap) (R X : Value → Heap → Prop) : Prop :=
  match v with
  | .func (.func g) first cap => hasBody P g = true ∧ ACallsX P g (first ++ args ++ cap) h R X
  | .func (.yield b) first cap => first = #[] ∧ cap = #[] ∧ AYield P b args h R
  | _ => False
theorem callV_func {g : FuncId} {first args cap : Array Value} {R X : Value → Heap → Prop} : callV P (.func (.func g) first cap) args h R X = (hasBody P g = true ∧ ACallsX P g (first ++ args ++ cap) h R X) := rfl
theorem aops_callv {t : Nat} {args : Array Operand} {ts : Array TypeId} : aops P all Q ({ dst := d, op := .call { callee := .value (.tmp t), args := args, argTypes := ts }, type := ty, pos := pos, after := aft, guard := none } :: rest) tm h =
    callV P (tm t) (args.map (ev tm)) h (nextH P all Q rest tm d) (panicK Q tm) := by
  simp only [aops, gate, stepK, stepV, callOf, ev]
  rfl
theorem aops_panic {x : Operand} : aops P all Q ({ dst := d, op := .panic x, type := ty, pos := pos, after := aft, guard := none } :: rest) tm h = raiseV (ev tm x) h (panicK Q tm) := by
  simp only [aops, gate, stepK, stepV, callOf, panicOf, aop, aeff]
  rfl
theorem aops_assert {x : Operand} {xt a : TypeId} : aops P all Q ({ dst := d, op := .typeAssert x xt a true, type := ty, pos := pos, after := aft, guard := none } :: rest) tm h = optK (assertV P tm (.typeAssert x xt a true)) (nextK P all Q rest tm d h) := by
  simp only [aops, gate, stepK, stepV, callOf, panicOf, aop, aeff]
  cases assertV P tm (.typeAssert x xt a true) <;> rfl
theorem raiseV_iface {t : TypeId} {v : Value} {X : Value → Heap → Prop} : raiseV (.iface t v) h X = X (.iface t v) h := propext Iff.rfl
theorem atm_get {l : List Value} {t : Nat} : atm l.toArray t = l.getD t undef := by simp [atm]
end
end Go.Proofs.YthmpaddhmgnkbaaDoor.Am
end
