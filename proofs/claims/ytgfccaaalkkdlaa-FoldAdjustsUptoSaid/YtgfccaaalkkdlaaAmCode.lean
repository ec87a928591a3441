/- The frame Am, tenth text: code and calls told of abstract values; the generator W; what it says holds of every related world. Nothing of a program stands here. -/
import Derived.Test.YtgfccaaalkkdlaaAmEff3
import Derived.Scope
set_option linter.unusedVariables false
set_option linter.unusedSimpArgs false
namespace Go.Proofs.Ytgfccaaalkkdlaa.Am
open Go Go.RowKit

def raised (v : Value) : Exit := .panic [{ v := v, recovered := false }]
def EX (ρ : Ren) (e e' : Exit) : Prop :=
  (e = .normal ∧ e' = .normal) ∨ (∃ i, e = .exit i ∧ e' = .exit i) ∨ (e = .ret ∧ e' = .ret) ∨ ∃ v v', e = raised v ∧ e' = raised v' ∧ VR ρ v v'
def Post (P : Program) (w0 : World) (ρ : Ren) (n : Nat) (Q : Exit → Tm → Heap → Prop) (e' : Exit) (a' : Act) (w' : World) : Prop :=
  ∃ e tm' h' ρ', Q e tm' h' ∧ EX ρ' e e' ∧ RenLe ρ ρ' ∧ HRel P w0 ρ' h' w' ∧ TR ρ' n tm' a'
def AWp (P : Program) (n : Nat) (c : Code) (Q : Exit → Tm → Heap → Prop) (tm : Tm) (h : Heap) : Prop :=
  ∀ w0 ρ w a, HRel P w0 ρ h w → TR ρ n tm a → c.wp P (Post P w0 ρ n Q) a w
def CPost (P : Program) (w0 : World) (ρ : Ren) (Qr Qp : Value → Heap → Prop) (e : Ending) (w' : World) : Prop :=
  ∃ ρ' h' v v', RenLe ρ ρ' ∧ HRel P w0 ρ' h' w' ∧ VR ρ' v v' ∧ ((e = .returned v' ∧ Qr v h') ∨ (e = .panicked [{ v := v', recovered := false }] ∧ Qp v h'))
/-- A call: in every related world it returns (or panics) so. -/
def ACallsX (P : Program) (f : FuncId) (args : Array Value) (h : Heap) (Qr Qp : Value → Heap → Prop) : Prop :=
  ∀ w0 ρ w args', HRel P w0 ρ h w → AR ρ args args' → Calls P f args' w (CPost P w0 ρ Qr Qp)
def ACalls (P : Program) (f : FuncId) (args : Array Value) (h : Heap) (Q : Value → Heap → Prop) : Prop := ACallsX P f args h Q (fun _ _ => False)

theorem ACallsX.mono {P : Program} {f : FuncId} {args : Array Value} {h : Heap} {Qr Qp Qr' Qp' : Value → Heap → Prop} (H : ACallsX P f args h Qr Qp) (h1 : ∀ v h', Qr v h' → Qr' v h') (h2 : ∀ v h', Qp v h' → Qp' v h') : ACallsX P f args h Qr' Qp' :=
  fun w0 ρ w args' hr ha => (H w0 ρ w args' hr ha).mono fun e w' ⟨ρ', h', v, v', a, b, c, d⟩ => ⟨ρ', h', v, v', a, b, c, d.imp (fun d => ⟨d.1, h1 _ _ d.2⟩) (fun d => ⟨d.1, h2 _ _ d.2⟩)⟩
/-- What a contract gives to the call that stands in a walk. -/
theorem ACalls.use {P : Program} {f : FuncId} {args : Array Value} {h : Heap} {Q Qr Qp : Value → Heap → Prop} (H : ACalls P f args h Q) (h1 : ∀ v h', Q v h' → Qr v h') : ACallsX P f args h Qr Qp :=
  ACallsX.mono H h1 (fun _ _ h => h.elim)
theorem ACalls.mono {P : Program} {f : FuncId} {args : Array Value} {h : Heap} {Q Q' : Value → Heap → Prop} (H : ACalls P f args h Q) (h1 : ∀ v h', Q v h' → Q' v h') : ACalls P f args h Q' := ACallsX.mono H h1 (fun _ _ h => h)

def aput (tm : Tm) (d : Option Tmp) (v : Value) : Tm :=
  match d with
  | some d => fun t => if t = d then v else tm t
  | none => tm
def boolOf : Value → Option Bool
  | .bool b => some b
  | _ => none
def gval (all : Array Oper) (tm : Tm) (j : Nat) : Option Bool :=
  match (all[j]?).bind (·.dst) with
  | some d => boolOf (tm d)
  | none => none
def gate (all : Array Oper) (o : Oper) (tm : Tm) (A B : Prop) : Prop :=
  match o.guard with
  | none => A
  | some (j, want) => (match gval all tm j with
    | some b => (b = want → A) ∧ (b = (!want) → B)
    | none => B)
/-- A function of Go text. -/
def hasBody (P : Program) (g : FuncId) : Bool :=
  match P.funcs[g]? with
  | some fn => fn.body.isSome && fn.name != "runtime.NumGoroutine"
  | none => false
def callOf : Op → Option (Operand × Array Operand)
  | .call { callee := .value f, args := args, argTypes := _ } => some (f, args)
  | _ => none
theorem callOf_eq {op : Op} {f : Operand} {args : Array Operand} (h : callOf op = some (f, args)) : ∃ ts, op = .call { callee := .value f, args := args, argTypes := ts } := by
  unfold callOf at h
  split at h
  · cases h; exact ⟨_, rfl⟩
  · cases h
/-- One operation: what becomes of its value. -/
def stepV (P : Program) (o : Oper) (tm : Tm) (h : Heap) (R : Value → Heap → Prop) (X : Value → Heap → Prop) : Prop :=
  match callOf o.op with
  | some (f, args) =>
    (match ev tm f with
    | .func (.func g) first cap => hasBody P g = true ∧ ACallsX P g (first ++ args.map (ev tm) ++ cap) h R X
    | _ => False)
  | none => (match aop P tm h o.op with
    | some v => R v h
    | none => (match aeff P tm h o.op with
      | some (v, h') => R v h'
      | none => False))
def stepK (P : Program) (o : Oper) (tm : Tm) (h : Heap) (K : Tm → Heap → Prop) (X : Value → Heap → Prop) : Prop := stepV P o tm h (fun v h' => K (aput tm o.dst v) h') X
def aops (P : Program) (all : Array Oper) (Q : Exit → Tm → Heap → Prop) : List Oper → Tm → Heap → Prop
  | [], tm, h => Q .normal tm h
  | o :: rest, tm, h => gate all o tm (stepK P o tm h (aops P all Q rest) (fun v h' => Q (raised v) tm h')) (aops P all Q rest (aput tm o.dst undef) h)
def thenK (K : Tm → Heap → Prop) (Q : Exit → Tm → Heap → Prop) : Exit → Tm → Heap → Prop
  | .normal, tm, h => K tm h
  | e, tm, h => Q e tm h
def blockK (id : Nat) (Q : Exit → Tm → Heap → Prop) : Exit → Tm → Heap → Prop
  | .exit i, tm, h => if i = id then Q .normal tm h else Q (.exit i) tm h
  | e, tm, h => Q e tm h
/-- A region that draws its order. -/
def ADraw (P : Program) (n : Nat) (ops : Array Oper) (Q : Exit → Tm → Heap → Prop) (tm : Tm) (h : Heap) : Prop := ∀ id, AWp P n (.region id ops true) Q tm h
def W (P : Program) (n : Nat) : Code → (Exit → Tm → Heap → Prop) → Tm → Heap → Prop
  | .skip, Q, tm, h => Q .normal tm h
  | .label _, Q, tm, h => Q .normal tm h
  | .region _ ops false, Q, tm, h => aops P ops Q ops.toList tm h
  | .region _ ops true, Q, tm, h => ADraw P n ops Q tm h
  | .seq a b, Q, tm, h => W P n a (thenK (W P n b Q) Q) tm h
  | .cond c a b, Q, tm, h => (match ev tm c with | .bool t => (t = true → W P n a Q tm h) ∧ (t = false → W P n b Q tm h) | _ => False)
  | .block id b, Q, tm, h => W P n b (blockK id Q) tm h
  | .loop b, Q, tm, h => ∃ (I : Tm → Heap → Prop) (μ : Tm → Heap → Nat), I tm h ∧ ∀ tm h, I tm h → W P n b (thenK (fun tm' h' => I tm' h' ∧ μ tm' h' < μ tm h) Q) tm h
  | .exit id, Q, tm, h => Q (.exit id) tm h
  | .ret, Q, tm, h => Q .ret tm h
  | .scope c, Q, tm, h => W P n c Q tm h
  | _, _, _, _ => False

def dstOk (n : Nat) (o : Oper) : Bool := match o.dst with | some d => d < n | none => true
def opsOk (P : Program) (n : Nat) (ops : Array Oper) : Bool := ops.toList.all fun o => dstOk n o && o.op.operands.toList.all (oprOk P n)
def codeOk (P : Program) (n : Nat) : Code → Bool
  | .region _ ops _ => opsOk P n ops
  | .seq a b => codeOk P n a && codeOk P n b
  | .cond c a b => oprOk P n c && codeOk P n a && codeOk P n b
  | .block _ b => codeOk P n b
  | .loop b => codeOk P n b
  | .scope b => codeOk P n b
  | _ => true

section
variable {P : Program} {w0 w : World} {ρ : Ren} {h : Heap} {n : Nat} {tm : Tm} {a : Act} {Q : Exit → Tm → Heap → Prop}
theorem TR.get (T : TR ρ n tm a) {t : Nat} (ht : t < n) : ∃ x, a.tmps[t]? = some x ∧ VR ρ (tm t) x := by
  have hs : t < a.tmps.size := by rw [T.size]; exact ht
  have := T.vals t ht
  rw [Array.getD_eq_getD_getElem?, Array.getElem?_eq_getElem hs, Option.getD_some] at this
  exact ⟨_, Array.getElem?_eq_getElem hs, this⟩
theorem TR.put (T : TR ρ n tm a) {d : Option Tmp} {v v' : Value} (hv : VR ρ v v') : TR ρ n (aput tm d v) (a.put d v') := by
  cases d with
  | none => exact T
  | some d =>
    refine ⟨by simp [Act.put, T.size], fun t ht => ?_, T.calm⟩
    obtain ⟨x, hx, hr⟩ := T.get ht
    have hlt : t < a.tmps.size := by rw [T.size]; exact ht
    simp only [aput, Act.put, Array.getD_eq_getD_getElem?, Array.getElem?_setIfInBounds]
    by_cases e : t = d
    · subst e
      rw [if_pos rfl, if_pos rfl, if_pos hlt]
      exact hv
    · rw [if_neg e, if_neg (Ne.symm e), hx]
      exact hr
theorem Post.mono {Q' : Exit → Tm → Heap → Prop} {ρ1 : Ren} (hρ : RenLe ρ1 ρ) (hq : ∀ e tm h, Q e tm h → Q' e tm h) {e : Exit} (H : Post P w0 ρ n Q e a w) : Post P w0 ρ1 n Q' e a w := by
  obtain ⟨e0, tm', h', ρ', q, x, r, hr, t⟩ := H
  exact ⟨e0, tm', h', ρ', hq _ _ _ q, x, hρ.trans r, hr, t⟩
theorem AWp.mono {c : Code} {Q' : Exit → Tm → Heap → Prop} (H : AWp P n c Q tm h) (hq : ∀ e tm h, Q e tm h → Q' e tm h) : AWp P n c Q' tm h :=
  fun w0 ρ w a hr t => wp_mono (H w0 ρ w a hr t) fun e a w p => p.mono (RenLe.refl _) hq
theorem yielded_rel {all : Array Oper} (hall : opsOk P n all = true) (T : TR ρ n tm a) (j : Nat) : yielded all a.tmps j = gval all tm j := by
  unfold yielded gval
  cases ho : all[j]? with
  | none => simp
  | some o =>
    simp only [Option.bind_some]
    cases hd : o.dst with
    | none => simp
    | some d =>
      have hlt : d < n := by
        have hm : o ∈ all.toList := by simpa using Array.mem_of_getElem? ho
        have := (List.all_eq_true.1 hall) o hm
        simp only [Bool.and_eq_true, dstOk, hd, decide_eq_true_eq] at this
        exact this.1
      obtain ⟨x, hx, hv⟩ := T.get hlt
      simp only [Option.bind_some, hx]
      have hk := vkind_eq hv
      cases ht : tm d <;> rw [ht] at hk hv <;> simp only [boolOf] <;> first
        | (rw [hv.bool_inv]; done)
        | (cases x <;> simp only [vkind] at hk <;> first | (exfalso; omega) | rfl)
theorem stepV_sound {o : Oper} {R : Value → Heap → Prop} {X : Value → Heap → Prop} (hs : stepV P o tm h R X) (H : HRel P w0 ρ h w) (T : TR ρ n tm a) (hok : ∀ x, x ∈ o.op.operands → oprOk P n x = true)
    {Kc : Act → World → Prop} {Qc : Exit → Act → World → Prop} (hK : ∀ v v' h' ρ' w', RenLe ρ ρ' → HRel P w0 ρ' h' w' → VR ρ' v v' → R v h' → Kc (a.put o.dst v') w')
    (hX : ∀ v v' h' ρ' w', RenLe ρ ρ' → HRel P w0 ρ' h' w' → VR ρ' v v' → X v h' → Qc (raised v') a w') : o.wp P a w Kc Qc := by
  unfold stepV at hs
  split at hs
  · rename_i f args hop
    obtain ⟨ts, hop⟩ := callOf_eq hop
    split at hs
    · rename_i g first cap hf
      obtain ⟨hb, hs⟩ := hs
      have hfr := ev_rel H T (hok f (by rw [hop]; simp [Op.operands, Call.operands]))
      rw [hf] at hfr
      obtain ⟨first', cap', he, _, hr1, hr2⟩ := hfr.func_inv
      have hargs := evs_rel H T (xs := args) (fun x hx => hok x (by rw [hop]; simp [Op.operands, Call.operands, hx]))
      have hrun : (execOp a.eval o).run P w = .ok (.enter g (first' ++ args.map a.eval ++ cap')) w := by
        unfold hasBody at hb
        split at hb
        · rename_i fn hfn
          simp only [Bool.and_eq_true, bne_iff_ne, ne_eq] at hb
          have hbn : fn.body.isNone = false := by cases hbd : fn.body with
            | none => rw [hbd] at hb; simp at hb
            | some _ => rfl
          simp only [execOp, hop, resolve, he, Deferred.ofValue, Sem.run_bind, Sem.run_pure, Result.andThen_ok, invoke, callFunc, run_program, hfn, beq_iff_eq, hb.2, if_false, hbn, Bool.false_eq_true]
        · cases hb
      unfold Oper.wp
      rw [hrun]
      refine (hs w0 ρ w _ H ((hr1.append hargs).append hr2)).mono fun e w' hp => ?_
      obtain ⟨ρ', h', v, v', h1, h2, h3, h4⟩ := hp
      rcases h4 with ⟨rfl, hq⟩ | ⟨rfl, hq⟩
      · exact hK v v' h' ρ' w' h1 h2 h3 hq
      · exact hX v v' h' ρ' w' h1 h2 h3 hq
    · exact hs.elim
  · split at hs
    · rename_i v hv
      obtain ⟨v', h1, h2⟩ := aop_sound H T hok hv
      unfold Oper.wp
      rw [h1]
      exact hK v v' h ρ w (RenLe.refl _) H h2 hs
    · split at hs
      · rename_i v h' hv
        obtain ⟨v', w', ρ', h1, h2, h3, h4⟩ := aeff_sound H T hok hv
        unfold Oper.wp
        rcases h1 with h1 | ⟨rfl, h1⟩
        · rw [h1]; exact hK v _ h' ρ' w' h2 h3 h4 hs
        · rw [h1]; exact hK v _ h' ρ' w' h2 h3 h4 hs
      · exact hs.elim
theorem stepK_sound {o : Oper} {K : Tm → Heap → Prop} {X : Value → Heap → Prop} (hs : stepK P o tm h K X) (H : HRel P w0 ρ h w) (T : TR ρ n tm a) (hok : ∀ x, x ∈ o.op.operands → oprOk P n x = true)
    {Kc : Act → World → Prop} {Qc : Exit → Act → World → Prop} (hK : ∀ tm' h' ρ' w' a', RenLe ρ ρ' → HRel P w0 ρ' h' w' → TR ρ' n tm' a' → K tm' h' → Kc a' w')
    (hX : ∀ v v' h' ρ' w', RenLe ρ ρ' → HRel P w0 ρ' h' w' → VR ρ' v v' → X v h' → Qc (raised v') a w') : o.wp P a w Kc Qc :=
  stepV_sound hs H T hok (fun v v' h' ρ' w' r H' hv hr => hK _ h' ρ' w' _ r H' ((T.mono r).put hv) hr) hX
theorem EX.raised {ρ : Ren} {v v' : Value} (h : VR ρ v v') : EX ρ (raised v) (raised v') := .inr (.inr (.inr ⟨v, v', rfl, rfl, h⟩))
theorem aops_sound {all : Array Oper} (hall : opsOk P n all = true) : ∀ (rest : List Oper), (∀ o, o ∈ rest → o ∈ all.toList) → ∀ (tm : Tm) (h : Heap), aops P all Q rest tm h →
    ∀ w0 ρ w a ρ0, RenLe ρ0 ρ → HRel P w0 ρ h w → TR ρ n tm a → wpList P all (Post P w0 ρ0 n Q) rest a w := by
  intro rest
  induction rest with
  | nil =>
    intro _ tm h hq w0 ρ w a ρ0 hρ H T
    exact ⟨.normal, tm, h, ρ, hq, .inl ⟨rfl, rfl⟩, hρ, H, T⟩
  | cons o rest ih =>
    intro hsub tm h hq w0 ρ w a ρ0 hρ H T
    have hm := hsub o (by simp)
    have hoo := (List.all_eq_true.1 hall) o hm
    simp only [Bool.and_eq_true] at hoo
    have hok : ∀ x, x ∈ o.op.operands → oprOk P n x = true := fun x hx => (List.all_eq_true.1 hoo.2) x (by simpa using hx)
    have hsub' : ∀ o, o ∈ rest → o ∈ all.toList := fun o ho => hsub o (by simp [ho])
    have step : stepK P o tm h (aops P all Q rest) (fun v h' => Q (raised v) tm h') → o.wp P a w (wpList P all (Post P w0 ρ0 n Q) rest) (Post P w0 ρ0 n Q) := fun hs =>
      stepK_sound hs H T hok (fun tm' h' ρ' w' a' r H' T' hk => ih hsub' tm' h' hk w0 ρ' w' a' ρ0 (hρ.trans r) H' T')
        (fun v v' h' ρ' w' r H' hv hk => ⟨raised v, tm, h', ρ', hk, EX.raised hv, hρ.trans r, H', T.mono r⟩)
    have skip : aops P all Q rest (aput tm o.dst undef) h → wpList P all (Post P w0 ρ0 n Q) rest (a.put o.dst undef) w := fun hk => ih hsub' _ h hk w0 ρ w _ ρ0 hρ H (T.put VR.undef)
    unfold wpList
    unfold aops gate at hq
    split at hq
    · rename_i hg
      rw [if_pos (by simp [Region.wanted, hg])]
      exact .inl (step hq)
    · rename_i j want hg
      have hy := yielded_rel hall T j
      split at hq
      · rename_i b hb
        by_cases e : b = want
        · rw [if_pos (by simp [Region.wanted, hg, hy, hb, e])]
          exact .inl (step (hq.1 e))
        · rw [if_neg (by simp [Region.wanted, hg, hy, hb, e])]
          exact skip (hq.2 (by cases b <;> cases want <;> simp_all))
      · rename_i hb
        rw [if_neg (by simp [Region.wanted, hg, hy, hb])]
        exact skip hq
/-- A loop whose measure is told beside its relation. -/
theorem wp_loop_rel {c : Code} {Q : Exit → Act → World → Prop} (I : Nat → Act → World → Prop) (h0 : ∃ k, I k a w)
    (round : ∀ k a w, I k a w → c.wp P (Exit.then (fun a' w' => ∃ k', k' < k ∧ I k' a' w') Q) a w) : (Code.loop c).wp P Q a w := by
  obtain ⟨k, hk⟩ := h0
  have hex : ∀ a w, (∃ k, I k a w) → ∃ k, I k a w ∧ ∀ j, I j a w → k ≤ j := fun a w ⟨k, hk⟩ => by
    induction k using Nat.strongRecOn with
    | _ k ih =>
      by_cases hx : ∃ j, j < k ∧ I j a w
      · obtain ⟨j, hj, hij⟩ := hx; exact ih j hj hij
      · exact ⟨k, hk, fun j hj => Nat.le_of_not_lt fun hlt => hx ⟨j, hlt, hj⟩⟩
  refine wp_loop (fun a w => ∃ k, I k a w) (fun a w => open Classical in if hx : ∃ k, I k a w then (hex a w hx).choose else 0) ⟨k, hk⟩ fun a w hi => ?_
  have hc := (hex a w hi).choose_spec
  refine wp_mono (round _ a w hc.1) fun e a' w' q => ?_
  cases e with
  | normal =>
    obtain ⟨k', hlt, hk'⟩ := q
    refine ⟨⟨k', hk'⟩, ?_⟩
    have hi' : ∃ k, I k a' w' := ⟨k', hk'⟩
    simp only [dif_pos hi, dif_pos hi']
    exact Nat.lt_of_le_of_lt ((hex a' w' hi').choose_spec.2 k' hk') hlt
  | _ => exact q
theorem W_sound : ∀ (c : Code) (Q : Exit → Tm → Heap → Prop) (tm : Tm) (h : Heap), codeOk P n c = true → W P n c Q tm h → AWp P n c Q tm h := by
  intro c
  induction c with
  | skip => exact fun Q tm h _ hw w0 ρ w a H T => wp_skip ⟨_, tm, h, ρ, hw, .inl ⟨rfl, rfl⟩, RenLe.refl _, H, T⟩
  | label l => exact fun Q tm h _ hw w0 ρ w a H T => wp_label ⟨_, tm, h, ρ, hw, .inl ⟨rfl, rfl⟩, RenLe.refl _, H, T⟩
  | region id ops draw =>
    intro Q tm h hok hw
    cases draw with
    | false => exact fun w0 ρ w a H T => wp_region_list (aops_sound hok ops.toList (fun _ h => h) tm h hw w0 ρ w a ρ (RenLe.refl _) H T)
    | true => exact hw id
  | seq x y ihx ihy =>
    intro Q tm h hok hw w0 ρ w a H T
    simp only [codeOk, Bool.and_eq_true] at hok
    refine wp_seq (wp_mono (ihx _ tm h hok.1 hw w0 ρ w a H T) ?_)
    rintro e a' w' ⟨e0, tm', h', ρ', q, x, r, H', T'⟩
    rcases x with ⟨rfl, rfl⟩ | ⟨i, rfl, rfl⟩ | ⟨rfl, rfl⟩ | ⟨v, v', rfl, rfl, hv⟩
    · exact wp_mono (ihy Q tm' h' hok.2 q w0 ρ' w' a' H' T') fun e a w p => p.mono r (fun _ _ _ h => h)
    · exact ⟨_, tm', h', ρ', q, .inr (.inl ⟨i, rfl, rfl⟩), r, H', T'⟩
    · exact ⟨_, tm', h', ρ', q, .inr (.inr (.inl ⟨rfl, rfl⟩)), r, H', T'⟩
    · exact ⟨_, tm', h', ρ', q, EX.raised hv, r, H', T'⟩
  | cond c x y ihx ihy =>
    intro Q tm h hok hw w0 ρ w a H T
    simp only [codeOk, Bool.and_eq_true] at hok
    unfold W at hw
    split at hw
    · rename_i t ht
      have hc := ev_rel H T hok.1.1
      rw [ht] at hc
      refine wp_cond hc.bool_inv ?_
      cases t with
      | true => exact ihx Q tm h hok.1.2 (hw.1 rfl) w0 ρ w a H T
      | false => exact ihy Q tm h hok.2 (hw.2 rfl) w0 ρ w a H T
    · exact hw.elim
  | block id b ih =>
    intro Q tm h hok hw w0 ρ w a H T
    refine wp_block (wp_mono (ih _ tm h hok hw w0 ρ w a H T) ?_)
    rintro e a' w' ⟨e0, tm', h', ρ', q, x, r, H', T'⟩
    rcases x with ⟨rfl, rfl⟩ | ⟨i, rfl, rfl⟩ | ⟨rfl, rfl⟩ | ⟨v, v', rfl, rfl, hv⟩
    · exact ⟨_, tm', h', ρ', q, .inl ⟨rfl, rfl⟩, r, H', T'⟩
    · simp only [blockK] at q
      simp only [Exit.inBlock]
      split at q
      · rename_i e; rw [if_pos e]; exact ⟨_, tm', h', ρ', q, .inl ⟨rfl, rfl⟩, r, H', T'⟩
      · rename_i e; rw [if_neg e]; exact ⟨_, tm', h', ρ', q, .inr (.inl ⟨i, rfl, rfl⟩), r, H', T'⟩
    · exact ⟨_, tm', h', ρ', q, .inr (.inr (.inl ⟨rfl, rfl⟩)), r, H', T'⟩
    · exact ⟨_, tm', h', ρ', q, EX.raised hv, r, H', T'⟩
  | loop b ih =>
    intro Q tm h hok hw w0 ρ w a H T
    obtain ⟨I, μ, hi, hround⟩ := hw
    refine wp_loop_rel (fun k a w => ∃ tm' h' ρ', I tm' h' ∧ μ tm' h' = k ∧ RenLe ρ ρ' ∧ HRel P w0 ρ' h' w ∧ TR ρ' n tm' a) ⟨_, tm, h, ρ, hi, rfl, RenLe.refl _, H, T⟩ ?_
    rintro k a w ⟨tm', h', ρ', hi', hk, r, H', T'⟩
    refine wp_mono (ih _ tm' h' hok (hround tm' h' hi') w0 ρ' w a H' T') ?_
    rintro e a2 w2 ⟨e0, tm2, h2, ρ2, q, x, r2, H2, T2⟩
    rcases x with ⟨rfl, rfl⟩ | ⟨i, rfl, rfl⟩ | ⟨rfl, rfl⟩ | ⟨v, v', rfl, rfl, hv⟩
    · exact ⟨_, by rw [← hk]; exact q.2, tm2, h2, ρ2, q.1, rfl, r.trans r2, H2, T2⟩
    · exact ⟨_, tm2, h2, ρ2, q, .inr (.inl ⟨i, rfl, rfl⟩), r.trans r2, H2, T2⟩
    · exact ⟨_, tm2, h2, ρ2, q, .inr (.inr (.inl ⟨rfl, rfl⟩)), r.trans r2, H2, T2⟩
    · exact ⟨_, tm2, h2, ρ2, q, EX.raised hv, r.trans r2, H2, T2⟩
  | exit id => exact fun Q tm h _ hw w0 ρ w a H T => wp_exit ⟨_, tm, h, ρ, hw, .inr (.inl ⟨id, rfl, rfl⟩), RenLe.refl _, H, T⟩
  | ret => exact fun Q tm h _ hw w0 ρ w a H T => wp_ret ⟨_, tm, h, ρ, hw, .inr (.inr (.inl ⟨rfl, rfl⟩)), RenLe.refl _, H, T⟩
  | rangeFunc f ps as b _ _ => exact fun Q tm h _ hw => hw.elim
  | scope b ih =>
    intro Q tm h hok hw w0 ρ w a H T
    refine wp_scope_straight (wp_mono (ih Q tm h hok hw w0 ρ w a H T) ?_)
    rintro e a' w' ⟨e0, tm', h', ρ', q, x, r, H', T'⟩
    rcases x with ⟨rfl, rfl⟩ | ⟨i, rfl, rfl⟩ | ⟨rfl, rfl⟩ | ⟨v, v', rfl, rfl, hv⟩
    · exact ⟨_, tm', h', ρ', q, .inl ⟨rfl, rfl⟩, r, H', T'⟩
    · exact ⟨_, tm', h', ρ', q, .inr (.inl ⟨i, rfl, rfl⟩), r, H', T'⟩
    · exact ⟨_, tm', h', ρ', q, .inr (.inr (.inl ⟨rfl, rfl⟩)), r, H', T'⟩
    · exact ⟨_, tm', h', ρ', q, EX.raised hv, r, H', T'⟩
  | goto l => exact fun Q tm h _ hw => hw.elim
  | refuse s => exact fun Q tm h _ hw => hw.elim

/-- What a function hands back. -/
def resV (P : Program) (h : Heap) (tm : Tm) : ResultVar → Option Value
  | .tmp t => some (tm t)
  | .cell a t => (match tm a with | .pointer (some x) => aload P h t x | _ => none)
def resList (P : Program) (h : Heap) (tm : Tm) : List ResultVar → Option (List Value)
  | [] => some []
  | r :: rs => (match resV P h tm r, resList P h tm rs with | some v, some l => some (v :: l) | _, _ => none)
def resOf (P : Program) (h : Heap) (tm : Tm) (rs : Array ResultVar) : Option Value :=
  match rs.toList with
  | [r] => resV P h tm r
  | l => (match resList P h tm l with | some l => some (.tuple l.toArray) | none => none)
def resOk (n : Nat) (rs : Array ResultVar) : Bool := rs.toList.all fun | .tmp t => t < n | .cell a _ => a < n
def optV (o : Option Value) (K : Value → Prop) : Prop := match o with | some v => K v | none => False
def retK (P : Program) (rs : Array ResultVar) (Qr Qp : Value → Heap → Prop) : Exit → Tm → Heap → Prop
  | .normal, tm, h => optV (resOf P h tm rs) (fun v => Qr v h)
  | .ret, tm, h => optV (resOf P h tm rs) (fun v => Qr v h)
  | .panic l, _, h => (match l with | [e] => e.recovered = false ∧ e.goexit = false ∧ Qp e.v h | _ => False)
  | _, _, _ => False
def atm (args : Array Value) : Tm := fun t => args.getD t undef
end
end Go.Proofs.Ytgfccaaalkkdlaa.Am
