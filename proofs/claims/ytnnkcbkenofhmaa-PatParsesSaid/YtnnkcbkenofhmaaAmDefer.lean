/- The frame Am, a text beside the others: a function that defers one call of a closure, and the closure that may recover. Nothing of a program stands here. -/
import Derived.Test.YtnnkcbkenofhmaaAmDraw5
import Derived.RecoverIn
set_option linter.unusedVariables false
set_option linter.unusedSimpArgs false
set_option linter.defProp false
namespace Go.Proofs.Ytnnkcbkenofhmaa.Am
open Go Go.RowKit
def PostD (P : Program) (w0 : World) (ρ : Ren) (n : Nat) (Q : Exit → Tm → Heap → Prop) (ds : List Deferred) (e' : Exit) (a' : Act) (w' : World) : Prop :=
  ∃ e tm' h' ρ', Q e tm' h' ∧ EX ρ' e e' ∧ RenLe ρ ρ' ∧ HRel P w0 ρ' h' w' ∧ TR ρ' n tm' a' ∧ a'.defers = ds
/-- Code without loops that adds nothing to what is deferred. -/
def WD (P : Program) (n : Nat) : Code → (Exit → Tm → Heap → Prop) → Tm → Heap → Prop
  | .skip, Q, tm, h => Q .normal tm h
  | .region _ ops false, Q, tm, h => aops P ops Q ops.toList tm h
  | .region _ ops true, Q, tm, h => P.follows .mixedOrders = true ∧ AAnyE P ops Q ops.size (Array.replicate ops.size false) tm h
  | .seq a b, Q, tm, h => WD P n a (thenK (WD P n b Q) Q) tm h
  | .cond c a b, Q, tm, h => condK (ev tm c) (WD P n a Q) (WD P n b Q) tm h
  | .ret, Q, tm, h => Q .ret tm h
  | _, _, _, _ => False
section
variable {P : Program} {w0 w : World} {ρ : Ren} {h : Heap} {n : Nat} {tm : Tm} {a : Act} {Q : Exit → Tm → Heap → Prop}
theorem aops_soundD {ro : Option Nat} {all : Array Oper} (hall : opsOk P n all = true) : ∀ (rest : List Oper), (∀ o, o ∈ rest → o ∈ all.toList) → ∀ (tm : Tm) (h : Heap), aops P all Q rest tm h →
    ∀ w0 ρ w a ρ0 ds, RenLe ρ0 ρ → a.defers = ds → HRel P w0 ρ h w → TR ρ n tm a → wpListIn (FO ro) 0 P all (PostD P w0 ρ0 n Q ds) rest a w := by
  intro rest
  induction rest with
  | nil =>
    intro _ tm h hq w0 ρ w a ρ0 ds hρ D H T
    exact ⟨.normal, tm, h, ρ, hq, .inl ⟨rfl, rfl⟩, hρ, H, T, D⟩
  | cons o rest ih =>
    intro hsub tm h hq w0 ρ w a ρ0 ds hρ D H T
    have hm := hsub o (by simp)
    have hoo := (List.all_eq_true.1 hall) o hm
    simp only [Bool.and_eq_true] at hoo
    have hok : ∀ x, x ∈ o.op.operands → oprOk P n x = true := fun x hx => (List.all_eq_true.1 hoo.2) x (by simpa using hx)
    have hsub' : ∀ o, o ∈ rest → o ∈ all.toList := fun o ho => hsub o (by simp [ho])
    have step : stepK P o tm h (aops P all Q rest) (fun v h' => Q (raised v) tm h') → o.wpIn (FO ro) 0 P a w (wpListIn (FO ro) 0 P all (PostD P w0 ρ0 n Q ds) rest) (PostD P w0 ρ0 n Q ds) := fun hs =>
      stepK_sound hs H T hok (fun tm' h' ρ' w' a' r H' T' hd hk => ih hsub' tm' h' hk w0 ρ' w' a' ρ0 ds (hρ.trans r) (by rw [hd]; exact D) H' T')
        (fun v v' h' ρ' w' r H' hv hk => ⟨raised v, tm, h', ρ', hk, EX.raised hv, hρ.trans r, H', T.mono r, D⟩)
    have skip : aops P all Q rest (aput tm o.dst undef) h → wpListIn (FO ro) 0 P all (PostD P w0 ρ0 n Q ds) rest (a.put o.dst undef) w := fun hk => ih hsub' _ h hk w0 ρ w _ ρ0 ds hρ (by rw [put_defers]; exact D) H (T.put VR.undef)
    unfold wpListIn
    unfold aops gate at hq
    split at hq
    · rename_i hg
      rw [if_pos (by simp [Region.wanted, hg])]
      exact step hq
    · rename_i j want hg
      have hy := yielded_rel hall T j
      split at hq
      · rename_i b hb
        by_cases e : b = want
        · rw [if_pos (by simp [Region.wanted, hg, hy, hb, e])]
          exact step (hq.1 e)
        · rw [if_neg (by simp [Region.wanted, hg, hy, hb, e])]
          exact ⟨FO_about, skip (hq.2 (by cases b <;> cases want <;> simp_all))⟩
      · rename_i hb
        rw [if_neg (by simp [Region.wanted, hg, hy, hb])]
        exact ⟨FO_about, skip hq⟩
theorem wpAny_of_AAnyD {ops : Array Oper} {ro : Option Nat} (hall : opsOk P n ops = true) : ∀ (fuel : Nat) (listed : Array Bool) (tm : Tm) (h : Heap), AAnyE P ops Q fuel listed tm h →
    ∀ w0 ρ w a ρ0 ds, RenLe ρ0 ρ → a.defers = ds → HRel P w0 ρ h w → TR ρ n tm a → wpAnyIn (FO ro) 0 P .any ops (PostD P w0 ρ0 n Q ds) fuel listed a w := by
  intro fuel
  induction fuel with
  | zero => exact fun listed tm h hA w0 ρ w a ρ0 ds hρ D H T => ⟨hA.1, _, tm, h, ρ, hA.2, .inl ⟨rfl, rfl⟩, hρ, H, T, D⟩
  | succ fuel ih =>
    intro listed tm h hA w0 ρ w a ρ0 ds hρ D H T
    refine ⟨fun hr => ⟨_, tm, h, ρ, hA.1 hr, .inl ⟨rfl, rfl⟩, hρ, H, T, D⟩, fun i hi => ?_⟩
    obtain ⟨_, o, ho, _⟩ := mem_ready.1 hi
    have hS := hA.2 i hi o ho
    have hm : o ∈ ops.toList := by simpa using Array.mem_of_getElem? ho
    have hoo := (List.all_eq_true.1 hall) o hm
    simp only [Bool.and_eq_true] at hoo
    have hok : ∀ x, x ∈ o.op.operands → oprOk P n x = true := fun x hx => (List.all_eq_true.1 hoo.2) x (by simpa using hx)
    have step : stepK P o tm h (fun tm' h' => (true = false → Reads h h') ∧ AAnyE P ops Q fuel (listed.setIfInBounds i true) tm' h') (fun v h' => Q (raised v) tm h') →
        o.wpIn (FO ro) 0 P a w (wpAnyIn (FO ro) 0 P .any ops (PostD P w0 ρ0 n Q ds) fuel (listed.setIfInBounds i true)) (PostD P w0 ρ0 n Q ds) := fun hs =>
      stepK_sound hs H T hok (fun tm' h' ρ' w' a' r H' T' hd hk => ih _ tm' h' hk.2 w0 ρ' w' a' ρ0 ds (hρ.trans r) (by rw [hd]; exact D) H' T')
        (fun v v' h' ρ' w' r H' hv hk => ⟨raised v, tm, h', ρ', hk, EX.raised hv, hρ.trans r, H', T.mono r, D⟩)
    have skip : AAnyE P ops Q fuel (listed.setIfInBounds i true) (aput tm o.dst undef) h → wpAnyIn (FO ro) 0 P .any ops (PostD P w0 ρ0 n Q ds) fuel (listed.setIfInBounds i true) (a.put o.dst undef) w :=
      fun hk => ih _ _ h hk w0 ρ w _ ρ0 ds hρ (by rw [put_defers]; exact D) H (T.put VR.undef)
    unfold wpOpIn
    simp only [ho]
    unfold AStep gate at hS
    split at hS
    · rename_i hg
      rw [if_pos (by simp [Region.wanted, hg])]
      exact step hS
    · rename_i j want hg
      have hy := yielded_rel hall T j
      split at hS
      · rename_i b hb
        by_cases e : b = want
        · rw [if_pos (by simp [Region.wanted, hg, hy, hb, e])]
          exact step (hS.1 e)
        · rw [if_neg (by simp [Region.wanted, hg, hy, hb, e])]
          exact ⟨FO_about, skip (hS.2 (by cases b <;> cases want <;> simp_all))⟩
      · rename_i hb
        rw [if_neg (by simp [Region.wanted, hg, hy, hb])]
        exact ⟨FO_about, skip hS⟩
theorem WD_sound : ∀ (c : Code) (Q : Exit → Tm → Heap → Prop) (tm : Tm) (h : Heap), codeOk P n c = true → WD P n c Q tm h → ∀ w0 ρ w a, HRel P w0 ρ h w → TR ρ n tm a → c.wpIn (FO none) 0 P (PostD P w0 ρ n Q a.defers) a w := by
  intro c
  induction c with
  | skip => exact fun Q tm h _ hw w0 ρ w a H T => wpIn_skip ⟨_, _, _, _, hw, .inl ⟨rfl, rfl⟩, RenLe.refl _, H, T, rfl⟩
  | ret => exact fun Q tm h _ hw w0 ρ w a H T => wpIn_ret ⟨_, _, _, _, hw, .inr (.inr (.inl ⟨rfl, rfl⟩)), RenLe.refl _, H, T, rfl⟩
  | region id ops draw =>
    intro Q tm h hok hw w0 ρ w a H T
    cases draw with
    | false => exact wpIn_region_list (aops_soundD hok ops.toList (fun _ h => h) tm h hw w0 ρ w a ρ a.defers (RenLe.refl _) rfl H T)
    | true => exact wpIn_region_any hw.1 (wpAny_of_AAnyD hok ops.size _ tm h hw.2 w0 ρ _ a ρ a.defers (RenLe.refl _) rfl (H.drawn _) T)
  | seq x y ihx ihy =>
    intro Q tm h hok hw w0 ρ w a H T
    simp only [codeOk, Bool.and_eq_true] at hok
    refine wpIn_seq (wpIn_mono (ihx _ tm h hok.1 hw w0 ρ w a H T) ?_)
    rintro e a' w' ⟨e0, tm', h', ρ', q, x, r, H', T', D'⟩
    rcases x with ⟨rfl, rfl⟩ | ⟨i, rfl, rfl⟩ | ⟨rfl, rfl⟩ | ⟨v, v', rfl, rfl, hv⟩
    · refine wpIn_mono (ihy Q tm' h' hok.2 q w0 ρ' w' a' H' T') ?_
      rintro e a2 w2 ⟨e2, tm2, h2, ρ2, q2, x2, r2, H2, T2, D2⟩
      exact ⟨e2, tm2, h2, ρ2, q2, x2, r.trans r2, H2, T2, D2.trans D'⟩
    · exact ⟨_, tm', h', ρ', q, .inr (.inl ⟨i, rfl, rfl⟩), r, H', T', D'⟩
    · exact ⟨_, tm', h', ρ', q, .inr (.inr (.inl ⟨rfl, rfl⟩)), r, H', T', D'⟩
    · exact ⟨_, tm', h', ρ', q, EX.raised hv, r, H', T', D'⟩
  | cond c x y ihx ihy =>
    intro Q tm h hok hw w0 ρ w a H T
    simp only [codeOk, Bool.and_eq_true] at hok
    unfold WD condK at hw
    split at hw
    · rename_i t ht
      have hc := ev_rel H T hok.1.1
      rw [ht] at hc
      refine wpIn_cond hc.bool_inv ?_
      cases t with
      | true => exact ihx Q tm h hok.1.2 (hw.1 rfl) w0 ρ w a H T
      | false => exact ihy Q tm h hok.2 (hw.2 rfl) w0 ρ w a H T
    · exact hw.elim
  | _ => exact fun Q tm h _ hw => hw.elim
theorem WD_seq {a b : Code} : WD P n (.seq a b) Q tm h = WD P n a (thenK (WD P n b Q) Q) tm h := propext Iff.rfl
theorem WD_region {id : Nat} {ops : Array Oper} : WD P n (.region id ops false) Q tm h = aops P ops Q ops.toList tm h := propext Iff.rfl
theorem WD_cond {c : Operand} {x y : Code} : WD P n (.cond c x y) Q tm h = condK (ev tm c) (WD P n x Q) (WD P n y Q) tm h := propext Iff.rfl
theorem WD_skip : WD P n .skip Q tm h = Q .normal tm h := propext Iff.rfl
theorem WD_ret : WD P n .ret Q tm h = Q .ret tm h := propext Iff.rfl
/-- The equations of such a walk. -/
def wd := And.intro @WD_seq <| And.intro @WD_region <| And.intro @WD_cond <| And.intro @WD_skip <| @WD_ret
theorem WD_draw {id : Nat} {ops : Array Oper} (t : ETr) (hm : P.follows .mixedOrders = true) (hsz : t.len = ops.size) (hor : etOk ops t (Array.replicate ops.size false) = true) (H : ETo P ops Q t tm h) : WD P n (.region id ops true) Q tm h :=
  ⟨hm, by rw [← hsz] at *; exact AAnyE_of_ETo t _ tm h hor H⟩
/-- A function leaves: the open blocks of its ranges are shut, one by one; then other deferred calls. -/
theorem leaves_marksT {fn : Func} {tmps : Array Value} {R : Ending → World → Prop} {u : FrameMode} (hu : u ≠ .run) {ρe : Ren} {ds : List Deferred} : ∀ (bs : List (Nat × Nat)) (ρ : Ren) (w : World), (bs.map (·.1)).Nodup → (∀ x, x ∈ bs → ρe x.1 = none ∧ ∃ L, ρ x.1 = some L ∧ L.mrk = true ∧ L.blk = x.2) →
    HRel P w0 ρ h w → RenLe ρe ρ → (∀ ρ' w', RenEq ρ ρ' → RenLe ρe ρ' → HRel P w0 ρ' h w' → LeavesInM Fence.wide 0 P fn tmps R ds u w') →
    LeavesInM Fence.wide 0 P fn tmps R (bs.map (fun x => ({ target := .collected x.2, args := #[] } : Deferred)) ++ ds) u w
  | [], ρ, w, _, _, H, hle, hend => hend ρ w (RenEq.refl ρ) hle H
  | x :: bs, ρ, w, hnd, hall, H, hle, hend => by
    obtain ⟨hne, L, hL, hm, hbk⟩ := hall x (by simp)
    simp only [List.map_cons, List.nodup_cons] at hnd
    obtain ⟨q1, q2⟩ := H.mo.marks _ _ hL hm
    refine ⟨hu, .inl ⟨x.2, w.putObj x.2 (.deferred none), rfl, by rw [← hbk]; exact run_takeDeferred q2, ?_⟩⟩
    refine leaves_marksT hu bs (Ren.shut ρ x.1) _ hnd.2 (fun y hy => ?_) (by rw [← hbk]; exact H.shut hL hm) (fun b L' hb => ?_) (fun ρ' w' e1 e2 e3 => hend ρ' w' ((Ren.shut_eqv ρ x.1).trans e1) e2 e3)
    · obtain ⟨g1, L', g2, g3, g4⟩ := hall y (by simp [hy])
      have : y.1 ≠ x.1 := fun e => hnd.1 (by rw [← e]; exact List.mem_map.2 ⟨y, hy, rfl⟩)
      exact ⟨g1, L', by rw [Ren.shut_ne this]; exact g2, g3, g4⟩
    · have : b ≠ x.1 := fun e => by rw [e, hne] at hb; cases hb
      rw [Ren.shut_ne this]; exact hle b L' hb
/-- How a frame goes out: it returns, or a panic is under way. -/
def outMode (u : Option Value) : FrameMode := match u with | none => .returning | some v => .panicking [{ v := v, recovered := false }]
/-- A deferred call of a closure: it ends, and nothing is under way any more. -/
def DCall (P : Program) (g : FuncId) (cap : Array Value) (u : Option Value) (h : Heap) (Q : Heap → Prop) : Prop :=
  ∀ w0 ρ w cap' u', HRel P w0 ρ h w → AR ρ cap cap' → (∀ v, u = some v → ∃ v', u' = some v' ∧ VR ρ v v') → (u = none → u' = none) →
    CallsDIn Fence.wide 0 P g cap' (outMode u') w fun e m w' => ∃ r ρ' h', e = .returned r ∧ settle m = .returning ∧ RenLe ρ ρ' ∧ HRel P w0 ρ' h' w' ∧ Q h'
theorem AR.start {args args' : Array Value} (A : AR ρ args args') (hsz : args.size ≤ n) : TR ρ n (atm args) { tmps := args' ++ Array.replicate (n - args'.size) undef, defers := [] } := by
  have hs := A.1
  refine ⟨by simp; omega, fun t ht => ?_⟩
  simp only [atm]
  by_cases h1 : t < args.size
  · have h2 : t < args'.size := by omega
    rw [Array.getD_eq_getD_getElem?, Array.getD_eq_getD_getElem?, Array.getElem?_append_left h2, Array.getElem?_eq_getElem h1, Array.getElem?_eq_getElem h2]
    exact A.2 t _ _ (Array.getElem?_eq_getElem h1) (Array.getElem?_eq_getElem h2)
  · rw [Array.getD_eq_getD_getElem?, Array.getD_eq_getD_getElem?, Array.getElem?_append_right (by omega), Array.getElem?_eq_none (by omega), Array.getElem?_replicate]
    split <;> exact VR.undef
def recOps (d0 d1 : Nat) (t0 t1 : TypeId) (p0 p1 : String) (e0 e1 : Array Edge) : Array Oper :=
  #[{ dst := some d0, op := .call { callee := .builtin .recover, args := #[], argTypes := #[] }, type := t0, pos := p0, after := e0, guard := none }, { dst := some d1, op := .assign (.tmp d0), type := t1, pos := p1, after := e1, guard := none }]
theorem dcall_of_WD {g : FuncId} {fn : Func} {id d0 d1 : Nat} {t0 t1 : TypeId} {p0 p1 : String} {e0 e1 : Array Edge} {rest : Code} {cap : Array Value} {u : Option Value} {Q : Heap → Prop} (hf : P.funcs[g]? = some fn) (hr : fn.results = #[])
    (hb : fn.body = some (.seq (.region id (recOps d0 d1 t0 t1 p0 p1 e0 e1) false) rest)) (hok : codeOk P fn.ntmps rest = true) (hd0 : d0 < fn.ntmps) (hsz : cap.size ≤ fn.ntmps)
    (hw : WD P fn.ntmps rest (fun e _ h' => (e = .normal ∨ e = .ret) ∧ Q h') (aput (aput (atm cap) (some d0) (u.getD .nilIface)) (some d1) (u.getD .nilIface)) h) : DCall P g cap u h Q := by
  intro w0 ρ w cap' u' H A hu1 hu2
  refine callsDIn_of_wpSIn hf hb trivial fun c₀ cs hc => wpSIn_seq (wpSIn_region ?_)
  have T0 := AR.start A hsz
  generalize hact : ({ tmps := cap' ++ Array.replicate (fn.ntmps - cap'.size) undef, defers := [] } : Act) = a0 at T0 ⊢
  have hds : a0.defers = [] := by rw [← hact]
  have hran : List.range (recOps d0 d1 t0 t1 p0 p1 e0 e1).size = [0, 1] := rfl
  have o0 : (recOps d0 d1 t0 t1 p0 p1 e0 e1)[0]? = some { dst := some d0, op := .call { callee := .builtin .recover, args := #[], argTypes := #[] }, type := t0, pos := p0, after := e0, guard := none } := rfl
  have o1 : (recOps d0 d1 t0 t1 p0 p1 e0 e1)[1]? = some { dst := some d1, op := .assign (.tmp d0), type := t1, pos := p1, after := e1, guard := none } := rfl
  have r0 : ∀ a : Act, (execOp a.eval { dst := some d0, op := .call { callee := .builtin .recover, args := #[], argTypes := #[] }, type := t0, pos := p0, after := e0, guard := none }).run P w = .ok .recover w := fun a => by
    simp [execOp, resolve, invoke, builtin]
  have r1 : ∀ a : Act, (execOp a.eval { dst := some d1, op := .assign (.tmp d0), type := t1, pos := p1, after := e1, guard := none }).run P w = .ok (.value (a.eval (.tmp d0))) w := fun a => by
    simp [execOp]
  have wn : ∀ (x : Option Nat) (op : Op) (t : TypeId) (p : String) (e : Array Edge) (f : Nat → Option Bool), Region.wanted { dst := x, op := op, type := t, pos := p, after := e, guard := none } f = true := fun _ _ _ _ _ _ => rfl
  -- the rest of the closure, whatever stands below
  have fin : ∀ (a1 : Act) (m : FrameMode), settle m = .returning → a1.defers = [] → TR ρ fn.ntmps (aput (aput (atm cap) (some d0) (u.getD .nilIface)) (some d1) (u.getD .nilIface)) a1 →
      rest.wpSIn Fence.wide 0 P (bodyPostS P fn c₀ cs fun e m w' => ∃ r ρ' h', e = .returned r ∧ settle m = .returning ∧ RenLe ρ ρ' ∧ HRel P w0 ρ' h' w' ∧ Q h') a1 ({ c₀ with mode := m } :: cs) w := fun a1 m hm hd1 T1 => by
    refine wpSIn_of_wpIn rfl (wpIn_mono (WD_sound rest _ _ h hok hw w0 ρ w a1 H T1) ?_)
    rintro e a' w' ⟨e2, tm', h', ρ', ⟨q1, q2⟩, x, r, H', T', D'⟩
    have hres : (results fn a'.tmps).run P w' = .ok (.tuple #[]) w' := by
      obtain ⟨v', g1, g2⟩ := res_rel H' T' (rs := #[]) rfl hr (v := .tuple #[]) resOf_none
      rw [g1]
      have := g2.tuple_inv
      obtain ⟨ys, rfl, hs, _⟩ := this
      have : ys = #[] := by simpa using hs.symm
      rw [this]
    have key : a'.defers = [] ∧ ∃ u', ({ c₀ with mode := m } : Frame) :: cs = { c₀ with mode := u' } :: cs ∧ ∃ v, (results fn a'.tmps).run P w' = .ok v w' ∧ ∃ r ρ2 h2, Ending.returned v = .returned r ∧ settle u' = .returning ∧ RenLe ρ ρ2 ∧ HRel P w0 ρ2 h2 w' ∧ Q h2 :=
      ⟨D'.trans hd1, m, rfl, _, hres, _, ρ', h', rfl, hm, r, H', q2⟩
    rcases x with ⟨rfl, rfl⟩ | ⟨i, rfl, rfl⟩ | ⟨rfl, rfl⟩ | ⟨v, v', rfl, rfl, hv⟩
    · exact key
    · rcases q1 with q1 | q1 <;> cases q1
    · exact key
    · rcases q1 with q1 | q1 <;> cases q1
  have ev0 : ∀ v', (a0.put (some d0) v').eval (.tmp d0) = v' := fun v' => by
    have := T0.size
    simp only [Act.put, Act.eval]
    simp [Array.getElem?_setIfInBounds, this, hd0]
  rw [hran]
  simp only [wpOpsSIn, o0, o1, wn, if_true, r0, r1]
  refine ⟨fun _ _ => trivial, ?_⟩
  cases hu : u with
  | none =>
    have hu' := hu2 hu
    subst hu'
    have hm : c₀.mode = .returning := hc
    have hrec : recoverD (c₀ :: cs) = none := by simp only [recoverD, hm]
    simp only [hrec]
    refine ⟨fun _ _ => trivial, ?_⟩
    rw [ev0]
    have := fin ((a0.put (some d0) .nilIface).put (some d1) .nilIface) .returning rfl (by rw [put_defers, put_defers]; exact hds) (by rw [hu]; exact (T0.put VR.nilIface).put VR.nilIface)
    have hcc : ({ c₀ with mode := .returning } : Frame) = c₀ := by rw [← hm]
    rw [hcc] at this
    exact this
  | some v =>
    obtain ⟨v', hu', hv⟩ := hu1 v hu
    subst hu'
    have hm : c₀.mode = .panicking [{ v := v', recovered := false }] := hc
    have hrec : recoverD (c₀ :: cs) = some (v', { c₀ with mode := .panicking [{ v := v', recovered := true }] } :: cs) := by simp only [recoverD, hm]
    simp only [hrec]
    refine ⟨fun _ _ => trivial, ?_⟩
    rw [ev0]
    exact fin ((a0.put (some d0) v').put (some d1) v') _ rfl (by rw [put_defers, put_defers]; exact hds) (by rw [hu]; exact (T0.put hv).put hv)
end
theorem AR.eqv {ρ ρ' : Ren} (hρ : RenEq ρ ρ') {xs ys : Array Value} (A : AR ρ xs ys) : AR ρ' xs ys := ⟨A.1, fun i x y hx hy => (A.2 i x y hx hy).eqv hρ⟩
def defOps (d : Nat) (g : FuncId) (cap : Array Operand) (t0 t1 : TypeId) (p0 p1 : String) (e0 e1 : Array Edge) : Array Oper :=
  #[{ dst := some d, op := .makeFunc (.func g) #[] cap, type := t0, pos := p0, after := e0, guard := none }, { dst := none, op := .defer { callee := .value (.tmp d), args := #[], argTypes := #[] }, type := t1, pos := p1, after := e1, guard := none }]
/-- A function's end, with a closure's call that is deferred. -/
def deferK (P : Program) (rs : Array ResultVar) (g : FuncId) (capv : Array Value) (Qr : Value → Heap → Prop) : Exit → Tm → Heap → Prop
  | .normal, tm, h => DCall P g capv none h (fun h' => optV (resOf P h' tm rs) (fun v => Qr v h'))
  | .ret, tm, h => DCall P g capv none h (fun h' => optV (resOf P h' tm rs) (fun v => Qr v h'))
  | .panic l, tm, h => (match l with | [e] => e.recovered = false ∧ e.goexit = false ∧ DCall P g capv (some e.v) h (fun h' => optV (resOf P h' tm rs) (fun v => Qr v h')) | _ => False)
  | _, _, _ => False
section
variable {P : Program} {w0 w : World} {ρ : Ren} {h : Heap} {n : Nat} {tm : Tm} {a : Act} {Q : Exit → Tm → Heap → Prop} {rs : Array ResultVar} {g : FuncId} {capv : Array Value} {Qr : Value → Heap → Prop}
theorem deferK_ret : deferK P rs g capv Qr .ret tm h = DCall P g capv none h (fun h' => optV (resOf P h' tm rs) (fun v => Qr v h')) := propext Iff.rfl
theorem deferK_raised {v : Value} : deferK P rs g capv Qr (raised v) tm h = DCall P g capv (some v) h (fun h' => optV (resOf P h' tm rs) (fun v => Qr v h')) := by simp [deferK, raised]
theorem acalls_defer {f : FuncId} {fn : Func} {c0 rest : Code} {id d : Nat} {cap : Array Operand} {t0 t1 : TypeId} {p0 p1 : String} {e0 e1 : Array Edge} {args : Array Value} (hf : P.funcs[f]? = some fn)
    (hb : fn.body = some (.seq c0 (.seq (.region id (defOps d g cap t0 t1 p0 p1 e0 e1) false) rest))) (hok0 : codeOk P fn.ntmps c0 = true) (hokr : codeOk P fn.ntmps rest = true) (hcap : cap.toList.all (oprOk P fn.ntmps) = true) (hd : d < fn.ntmps)
    (hr : resOk fn.ntmps fn.results = true) (hsz : args.size ≤ fn.ntmps) (hg : hasBody P g = true)
    (hw : W P fn.ntmps c0 (thenK (fun tm h => cap.map (ev tm) = capv ∧ W P fn.ntmps rest (deferK P fn.results g capv Qr) (aput tm (some d) (.func (.func g) #[] capv)) h) (fun _ _ _ => False)) (atm args) h) : ACalls P f args h Qr := by
  intro w0 ρ w args' H A
  refine callsIn_wide.1 (callsIn_of_wp_marks (F := Fence.wide) (n := 0) hf hb trivial ?_)
  have T0 := AR.start A hsz
  refine wpIn_seq (wpIn_mono (W_sound (ro := none) c0 _ _ h hok0 (.inl rfl) hw w0 ρ w _ H T0) ?_)
  rintro e a1 w1 ⟨x0, tm1, h1, ρ1, q, x, r1, H1, T1, D1⟩
  obtain ⟨rfl, rfl⟩ : x0 = .normal ∧ e = .normal := by
    rcases x with x | ⟨i, rfl, rfl⟩ | ⟨rfl, rfl⟩ | ⟨v, v', rfl, rfl, hv⟩
    · exact x
    · exact q.elim
    · exact q.elim
    · exact q.elim
  obtain ⟨hcv, hwr⟩ := q
  refine wpIn_seq (wpIn_region_list ?_)
  have hargs := evs_rel H1 T1 (xs := cap) (fun x hx => (List.all_eq_true.1 hcap) x (by simpa using hx))
  rw [hcv] at hargs
  have n0 : ∀ c, (Op.makeFunc (.func g) #[] cap) ≠ .defer c := fun c e => by cases e
  have hsz1 : (a1.put (some d) (.func (.func g) #[] (cap.map a1.eval))).eval (.tmp d) = .func (.func g) #[] (cap.map a1.eval) := by
    have := T1.size
    simp only [Act.put, Act.eval]
    simp [Array.getElem?_setIfInBounds, this, hd]
  have s0 : (Oper.semAt Fence.wide.round a1.eval { dst := some d, op := .makeFunc (.func g) #[] cap, type := t0, pos := p0, after := e0, guard := none }).run P w1 = .ok (.value (.func (.func g) #[] (cap.map a1.eval))) w1 := by
    rw [Oper.semAt_eq _ _ _ n0]; simp [execOp, Instr.makeFunc]
  have s1 : ∀ a : Act, a.eval (.tmp d) = .func (.func g) #[] (cap.map a1.eval) → (Oper.semAt Fence.wide.round a.eval { dst := none, op := .defer { callee := .value (.tmp d), args := #[], argTypes := #[] }, type := t1, pos := p1, after := e1, guard := none }).run P w1 =
      .ok (.defer { target := .fn (.func g) (cap.map a1.eval), args := #[] }) w1 := fun a ha => by
    rw [show Fence.wide.round = none from rfl, Oper.semAt_none]
    simp [execOp, resolve, ha, Deferred.ofValue]
  have hcs : (cap.map a1.eval).size = capv.size := hargs.1.symm
  show wpListIn Fence.wide 0 P _ _ [_, _] a1 w1
  unfold wpListIn
  rw [if_pos (show Region.wanted _ _ = true from rfl)]
  refine ⟨fun _ _ => trivial, ?_⟩
  rw [s0, Oper.uponIn_value]
  unfold wpListIn
  rw [if_pos (show Region.wanted _ _ = true from rfl)]
  refine ⟨fun _ _ => trivial, ?_⟩
  rw [s1 _ hsz1, Oper.uponIn_defer]
  have hfv : VR ρ1 (.func (.func g) #[] capv) (.func (.func g) #[] (cap.map a1.eval)) := VR.func rfl AR.nil hargs
  have T2 := T1.put (d := some d) hfv
  generalize ha2 : ({ a1.put (some d) (.func (.func g) #[] (cap.map a1.eval)) with defers := { target := .fn (.func g) (cap.map a1.eval), args := #[] } :: (a1.put (some d) (.func (.func g) #[] (cap.map a1.eval))).defers } : Act) = a2
  have T3 : TR ρ1 fn.ntmps (aput tm1 (some d) (.func (.func g) #[] capv)) a2 := by rw [← ha2]; exact ⟨T2.size, T2.vals⟩
  have hd2 : a2.defers = { target := .fn (.func g) (cap.map a1.eval), args := #[] } :: a1.defers := by rw [← ha2]; rfl
  show rest.wpIn Fence.wide 0 P _ a2 w1
  refine wpIn_mono (W_sound (ro := none) rest _ _ h1 hokr (.inl rfl) hwr w0 ρ1 w1 _ H1 T3) ?_
  rintro e a' w' ⟨x2, tm', h', ρ', q, x, r, H', T', bs, hnd, hds, hall⟩
  obtain ⟨bs0, hnd0, hds0, hall0⟩ := D1
  have fin : ∀ (u u' : Option Value), (∀ v, u = some v → ∃ v', u' = some v' ∧ VR ρ' v v') → (u = none → u' = none) → DCall P g capv u h' (fun h' => optV (resOf P h' tm' fn.results) (fun v => Qr v h')) → LeavesInM Fence.wide 0 P fn a'.tmps (CPost P w0 ρ Qr fun _ _ => False) a'.defers (outMode u') w' := fun u u' hu1 hu2 D => by
    have hrun : outMode u' ≠ .run := by cases u' <;> simp [outMode]
    rw [hds, hd2]
    refine leaves_marksT hrun bs ρ' w' hnd hall H' r fun ρ2 w2 e1 e2 H2 => ?_
    have hinv : (invoke (Target.fn (.func g) (cap.map a1.eval)) #[]).run P w2 = .ok (.enter g (cap.map a1.eval)) w2 := by
      unfold hasBody at hg
      split at hg
      · rename_i fn' hfn
        simp only [Bool.and_eq_true, bne_iff_ne, ne_eq] at hg
        have hbn : fn'.body.isNone = false := by cases hbd : fn'.body with
          | none => rw [hbd] at hg; simp at hg
          | some _ => rfl
        simp only [invoke, callFunc, Sem.run_bind, run_program, Result.andThen_ok, hfn, beq_iff_eq, hg.2, if_false, hbn, Bool.false_eq_true, Sem.run_pure]
        simp
      · cases hg
    refine ⟨hrun, .inr ⟨(fun e => by cases e), .func g, cap.map a1.eval, g, cap.map a1.eval, rfl, hinv, fun _ _ => trivial, ?_⟩⟩
    refine (D w0 ρ2 w2 (cap.map a1.eval) u' H2 (AR.eqv e1 (hargs.mono r)) (fun v hv => by obtain ⟨v', g1, g2⟩ := hu1 v hv; exact ⟨v', g1, g2.eqv e1⟩) hu2).mono ?_
    rintro e m w3 ⟨rv, ρ3, h3, rfl, hm, r3, H3, q3⟩
    simp only [hm]
    obtain ⟨v, hv, q4⟩ := optV_some q3
    have hle1 : RenLe ρ1 ρ3 := e2.trans r3
    obtain ⟨ds0, hds1⟩ : ∃ l, l = a1.defers := ⟨_, rfl⟩
    rw [hds0]
    refine leaves_marksT (by simp) bs0 ρ3 w3 hnd0 (fun y hy => ?_) H3 (r1.trans hle1) fun ρ4 w4 e4 e5 H4 => ?_
    · obtain ⟨y1, L, y2, y3, y4⟩ := hall0 y hy
      exact ⟨y1, L, hle1 _ _ y2, y3, y4⟩
    · have T4 : TR ρ4 fn.ntmps tm' a' := ((T'.eqv e1).mono r3).eqv e4
      obtain ⟨v', g1, g2⟩ := res_rel H4 T4 hr rfl hv
      exact ⟨v', g1, ρ4, h3, v, v', e5, H4, g2, .inl ⟨rfl, q4⟩⟩
  rcases x with ⟨rfl, rfl⟩ | ⟨i, rfl, rfl⟩ | ⟨rfl, rfl⟩ | ⟨v, v', rfl, rfl, hv⟩
  · exact fin none none (fun v e => by cases e) (fun _ => rfl) q
  · exact q.elim
  · exact fin none none (fun v e => by cases e) (fun _ => rfl) q
  · exact fin (some v) (some v') (fun u e => by cases e; exact ⟨v', rfl, hv⟩) (fun e => by cases e) q.2.2
end
end Go.Proofs.Ytnnkcbkenofhmaa.Am
