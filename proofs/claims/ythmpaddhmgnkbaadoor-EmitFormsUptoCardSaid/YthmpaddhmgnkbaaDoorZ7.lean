/- The texts of this seat, one behind another (part 7 of 25): the frame (an abstract machine), the contracts of functions, the laws. -/
import Derived.Test.YthmpaddhmgnkbaaDoorZ6
import Derived.Scope
import Derived.RangeFuncIn
import Derived.TacticsIn
import Derived.ControlIn
section
/- The frame Am, tenth text: code and calls told of abstract values; the generator W; what it says holds of every related world. Nothing of a program stands here. -/
set_option linter.unusedVariables false
set_option linter.unusedSimpArgs false
namespace Go.Proofs.YthmpaddhmgnkbaaDoor.Am
open Go Go.RowKit

def raised (v : Value) : Exit := .panic [{ v := v, recovered := false }]
def EX (ρ : Ren) (e e' : Exit) : Prop :=
  (e = .normal ∧ e' = .normal) ∨ (∃ i, e = .exit i ∧ e' = .exit i) ∨ (e = .ret ∧ e' = .ret) ∨ ∃ v v', e = raised v ∧ e' = raised v' ∧ VR ρ v v'
/-- The deferred calls are more by marks of open blocks alone. -/
def DT (ρ ρ' : Ren) (ds ds' : List Deferred) : Prop := ∃ bs : List (Nat × Nat), (bs.map (·.1)).Nodup ∧ ds' = bs.map (fun x => ({ target := .collected x.2, args := #[] } : Deferred)) ++ ds ∧ ∀ x, x ∈ bs → ρ x.1 = none ∧ ∃ L, ρ' x.1 = some L ∧ L.mrk = true ∧ L.blk = x.2
theorem DT.refl (ρ : Ren) (ds : List Deferred) : DT ρ ρ ds ds := ⟨[], by simp, rfl, fun x h => by simp at h⟩
theorem DT.trans {ρ ρ1 ρ2 : Ren} {ds ds1 ds2 : List Deferred} (h1 : RenLe ρ ρ1) (h2 : RenLe ρ1 ρ2) (D : DT ρ ρ1 ds ds1) (E : DT ρ1 ρ2 ds1 ds2) : DT ρ ρ2 ds ds2 := by
  obtain ⟨bs, n1, rfl, g1⟩ := D
  obtain ⟨cs, n2, rfl, g2⟩ := E
  refine ⟨cs ++ bs, ?_, by simp, fun x hx => ?_⟩
  · rw [List.map_append, List.nodup_append]
    refine ⟨n2, n1, fun a ha b hb e => ?_⟩
    obtain ⟨x, hx, rfl⟩ := List.mem_map.1 ha
    obtain ⟨y, hy, rfl⟩ := List.mem_map.1 hb
    obtain ⟨_, L, hL, _⟩ := g1 y hy
    have := (g2 x hx).1
    rw [e, hL] at this; cases this
  · rcases List.mem_append.1 hx with hx | hx
    · obtain ⟨q1, q2⟩ := g2 x hx
      refine ⟨?_, q2⟩
      cases hr : ρ x.1 with
      | none => rfl
      | some L => rw [h1 _ _ hr] at q1; cases q1
    · obtain ⟨q1, L, q2, q3⟩ := g1 x hx
      exact ⟨q1, L, h2 _ _ q2, q3⟩
theorem DT.mono {ρ ρ1 ρ2 : Ren} {ds ds1 : List Deferred} (D : DT ρ ρ1 ds ds1) (h2 : RenLe ρ1 ρ2) : DT ρ ρ2 ds ds1 := by
  obtain ⟨bs, n1, h, g1⟩ := D
  exact ⟨bs, n1, h, fun x hx => by obtain ⟨q1, L, q2, q3⟩ := g1 x hx; exact ⟨q1, L, h2 _ _ q2, q3⟩⟩
/-- The fence that asks nothing; in a round of the record ro or in none. -/
def FO (ro : Option Nat) : Fence := { Fence.wide with round := ro }
def Post (P : Program) (w0 : World) (ρ : Ren) (n : Nat) (Q : Exit → Tm → Heap → Prop) (ds : List Deferred) (e' : Exit) (a' : Act) (w' : World) : Prop :=
  ∃ e tm' h' ρ', Q e tm' h' ∧ EX ρ' e e' ∧ RenLe ρ ρ' ∧ HRel P w0 ρ' h' w' ∧ TR ρ' n tm' a' ∧ DT ρ ρ' ds a'.defers
def AWpR (ro : Option Nat) (P : Program) (n : Nat) (c : Code) (Q : Exit → Tm → Heap → Prop) (tm : Tm) (h : Heap) : Prop :=
  ∀ w0 ρ w a, HRel P w0 ρ h w → TR ρ n tm a → c.wpIn (FO ro) 0 P (Post P w0 ρ n Q a.defers) a w
/-- Code that is walked, in a round or in none. -/
def AWp (P : Program) (n : Nat) (c : Code) (Q : Exit → Tm → Heap → Prop) (tm : Tm) (h : Heap) : Prop := ∀ ro, AWpR ro P n c Q tm h
def CPost (P : Program) (w0 : World) (ρ : Ren) (Qr Qp : Value → Heap → Prop) (e : Ending) (w' : World) : Prop :=
  ∃ ρ' h' v v', RenLe ρ ρ' ∧ HRel P w0 ρ' h' w' ∧ VR ρ' v v' ∧ ((e = .returned v' ∧ Qr v h') ∨ (e = .panicked [{ v := v', recovered := false }] ∧ Qp v h'))
/-- A call: in every related world it returns (or panics) so. -/
def ACallsX (P : Program) (f : FuncId) (args : Array Value) (h : Heap) (Qr Qp : Value → Heap → Prop) : Prop :=
  ∀ w0 ρ w args', HRel P w0 ρ h w → AR ρ args args' → Calls P f args' w (CPost P w0 ρ Qr Qp)
def ACalls (P : Program) (f : FuncId) (args : Array Value) (h : Heap) (Q : Value → Heap → Prop) : Prop := ACallsX P f args h Q (fun _ _ => False)

theorem ACallsX.mono {P : Program} {f : FuncId} {args : Array Value} {h : Heap} {Qr Qp Qr' Qp' : Value → Heap → Prop} (H : ACallsX P f args h Qr Qp) (h1 : ∀ v h', Qr v h' → Qr' v h') (h2 : ∀ v h', Qp v h' → Qp' v h') : ACallsX P f args h Qr' Qp' :=
  fun w0 ρ w args' hr ha => (H w0 ρ w args' hr ha).mono fun e w' ⟨ρ', h', v, v', a, b, c, d⟩ => ⟨ρ', h', v, v', a, b, c, d.imp (fun d => ⟨d.1, h1 _ _ d.2⟩) (fun d => ⟨d.1, h2 _ _ d.2⟩)⟩
/-- What a contract gives to the call that stands in a walk. -/
theorem ACalls.use {P : Program} {f : FuncId} {args : Array Value} {h : Heap} {Q Qr Qp : Value → Heap → Prop} (H : ACalls P f args h Q) (h1 : ∀ v h', Q v h' → Qr v h') : ACallsX P f args h Qr Qp :=
  ACallsX.mono H h1 (fun _ _ h => h.elim)
theorem ACalls.mono {P : Program} {f : FuncId} {args : Array Value} {h : Heap} {Q Q' : Value → Heap → Prop} (H : ACalls P f args h Q) (h1 : ∀ v h', Q v h' → Q' v h') : ACalls P f args h Q' := ACallsX.mono H h1 (fun _ _ h => h)

def aput (tm : Tm) (d : Option Tmp) (v : Value) : Tm :=
  match d with
  | some d => fun t => if t = d then v else tm t
  | none => tm
def boolOf : Value → Option Bool
  | .bool b => some b
  | _ => none
def gval (all : Array Oper) (tm : Tm) (j : Nat) : Option Bool :=
  match (all[j]?).bind (·.dst) with
  | some d => boolOf (tm d)
  | none => none
def gate (all : Array Oper) (o : Oper) (tm : Tm) (A B : Prop) : Prop :=
  match o.guard with
  | none => A
  | some (j, want) => (match gval all tm j with
    | some b => (b = want → A) ∧ (b = (!want) → B)
    | none => B)
/-- A function of Go text. -/
def hasBody (P : Program) (g : FuncId) : Bool :=
  match P.funcs[g]? with
  | some fn => fn.body.isSome && fn.name != "runtime.NumGoroutine"
  | none => false
/-- A round of a range over a function: what the call of its yield does. -/
def AYield (P : Program) (b : Nat) (args : Array Value) (h : Heap) (Qr : Value → Heap → Prop) : Prop :=
  ∀ w0 ρ w args', HRel P w0 ρ h w → AR ρ args args' → ∃ L f tmps asg body, ρ b = some L ∧ (Instr.yield L.blk args').run P w = .ok (.round L.blk f tmps asg body) w ∧ RoundIn Fence.wide 0 P L.blk f tmps asg body w (CPost P w0 ρ Qr (fun _ _ => False))
theorem AYield.mono {P : Program} {b : Nat} {args : Array Value} {h : Heap} {Q Q' : Value → Heap → Prop} (H : AYield P b args h Q) (h1 : ∀ v h', Q v h' → Q' v h') : AYield P b args h Q' := fun w0 ρ w args' Hr A => by
  obtain ⟨L, f, tmps, asg, body, hL, hy, hr⟩ := H w0 ρ w args' Hr A
  refine ⟨L, f, tmps, asg, body, hL, hy, hr.mono fun e w' hp => ?_⟩
  obtain ⟨ρ', h', v, v', g1, g2, g3, g4⟩ := hp
  exact ⟨ρ', h', v, v', g1, g2, g3, g4.imp (fun d => ⟨d.1, h1 _ _ d.2⟩) id⟩
def callOf : Op → Option (Operand × Array Operand)
  | .call { callee := .value f, args := args, argTypes := _ } => some (f, args)
  | _ => none
def panicOf : Op → Option Operand
  | .panic x => some x
  | _ => none
theorem panicOf_eq {op : Op} {x : Operand} (h : panicOf op = some x) : op = .panic x := by
  unfold panicOf at h
  split at h
  · cases h; rfl
  · cases h
/-- An interface value taken for a struct, where it is one. -/
def assertV (P : Program) (tm : Tm) : Op → Option Value
  | .typeAssert x _ a true => (match ev tm x, P.underlying a with
    | .iface t v, some (.struct _) => if t = a then some (.tuple #[v, .bool true]) else none
    | .iface t v, some (.array _ _) => if t = a then some (.tuple #[v, .bool true]) else none
    | _, _ => none)
  | _ => none
theorem assertV_eq {P : Program} {tm : Tm} {op : Op} {u : Value} (h : assertV P tm op = some u) : ∃ x xt a t v, op = .typeAssert x xt a true ∧ ev tm x = .iface a v ∧ ((∃ fs, P.underlying a = some (.struct fs)) ∨ ∃ n e, P.underlying a = some (.array n e)) ∧ t = a ∧ u = .tuple #[v, .bool true] := by
  unfold assertV at h
  split at h
  · split at h
    · rename_i he hu
      split at h
      · rename_i e; cases h; subst e; exact ⟨_, _, _, _, _, rfl, he, .inl ⟨_, hu⟩, rfl, rfl⟩
      · cases h
    · rename_i he hu
      split at h
      · rename_i e; cases h; subst e; exact ⟨_, _, _, _, _, rfl, he, .inr ⟨_, _, hu⟩, rfl, rfl⟩
      · cases h
    · cases h
  · cases h
/-- A method of a type by its name: its function, and whether it takes the pointer itself. -/
def methF (P : Program) (t : TypeId) (name : String) : Option (FuncId × Bool) :=
  (P.info? t).bind fun i => (i.methods.find? fun m => m.name == name).bind fun m => if m.path.toList.isEmpty then m.func else none
/-- A method of a pointer in an interface: its function and its receiver. -/
def invG (P : Program) (h : Heap) (name : String) (v : Value) : Option (FuncId × Value) :=
  match v with
  | .iface t (.pointer (some p)) => (match P.underlying t, methF P t name with
    | some (.pointer _), some (f, true) => some (f, .pointer (some p))
    | some (.pointer e), some (f, false) => (match aload P h e p with | some v => some (f, v) | none => none)
    | _, _ => none)
  | _ => none
def invV (P : Program) (tm : Tm) (h : Heap) : Op → Option (FuncId × Array Value)
  | .call { callee := .invoke x name, args := args, argTypes := _ } => (match invG P h name (ev tm x) with | some (f, r) => some (f, #[r] ++ args.map (ev tm)) | none => none)
  | _ => none
theorem invV_eq {P : Program} {tm : Tm} {h : Heap} {op : Op} {f : FuncId} {as : Array Value} (hv : invV P tm h op = some (f, as)) : ∃ x name args ts t p e b r, op = .call { callee := .invoke x name, args := args, argTypes := ts } ∧ ev tm x = .iface t (.pointer (some p)) ∧ P.underlying t = some (.pointer e) ∧ methF P t name = some (f, b) ∧
    as = #[r] ++ args.map (ev tm) ∧ ((b = true ∧ r = .pointer (some p)) ∨ (b = false ∧ aload P h e p = some r)) := by
  unfold invV at hv
  split at hv
  · rename_i x name args ts
    split at hv
    · rename_i f' r hg
      cases hv
      unfold invG at hg
      split at hg
      · rename_i t p he
        split at hg
        · rename_i h1 h2; cases hg; exact ⟨_, _, _, _, _, _, _, _, _, rfl, he, h1, h2, rfl, .inl ⟨rfl, rfl⟩⟩
        · rename_i h1 h2
          split at hg
          · rename_i h3; cases hg; exact ⟨_, _, _, _, _, _, _, _, _, rfl, he, h1, h2, rfl, .inr ⟨rfl, h3⟩⟩
          · cases hg
        · cases hg
      · cases hg
    · cases hv
  · cases hv
/-- What a panic raises. -/
def raiseV (v : Value) (h : Heap) (X : Value → Heap → Prop) : Prop := match v with | .iface t v => X (.iface t v) h | _ => False
theorem callOf_eq {op : Op} {f : Operand} {args : Array Operand} (h : callOf op = some (f, args)) : ∃ ts, op = .call { callee := .value f, args := args, argTypes := ts } := by
  unfold callOf at h
  split at h
  · cases h; exact ⟨_, rfl⟩
  · cases h
/-- One operation: what becomes of its value. -/
def stepV (P : Program) (o : Oper) (tm : Tm) (h : Heap) (R : Value → Heap → Prop) (X : Value → Heap → Prop) : Prop :=
  match callOf o.op with
  | some (f, args) =>
    (match ev tm f with
    | .func (.func g) first cap => hasBody P g = true ∧ ACallsX P g (first ++ args.map (ev tm) ++ cap) h R X
    | .func (.yield b) first cap => first = #[] ∧ cap = #[] ∧ AYield P b (args.map (ev tm)) h R
    | _ => False)
  | none => (match aop P tm h o.op with
    | some v => R v h
    | none => (match aeff P tm h o.op with
      | some (v, h') => R v h'
      | none => (match panicOf o.op with
        | some x => raiseV (ev tm x) h X
        | none => (match assertV P tm o.op with
          | some v => R v h
          | none => (match invV P tm h o.op with
            | some (g, as) => hasBody P g = true ∧ ACallsX P g as h R X
            | none => False)))))
def stepK (P : Program) (o : Oper) (tm : Tm) (h : Heap) (K : Tm → Heap → Prop) (X : Value → Heap → Prop) : Prop := stepV P o tm h (fun v h' => K (aput tm o.dst v) h') X
def aops (P : Program) (all : Array Oper) (Q : Exit → Tm → Heap → Prop) : List Oper → Tm → Heap → Prop
  | [], tm, h => Q .normal tm h
  | o :: rest, tm, h => gate all o tm (stepK P o tm h (aops P all Q rest) (fun v h' => Q (raised v) tm h')) (aops P all Q rest (aput tm o.dst undef) h)
def thenK (K : Tm → Heap → Prop) (Q : Exit → Tm → Heap → Prop) : Exit → Tm → Heap → Prop
  | .normal, tm, h => K tm h
  | e, tm, h => Q e tm h
def blockK (id : Nat) (Q : Exit → Tm → Heap → Prop) : Exit → Tm → Heap → Prop
  | .exit i, tm, h => if i = id then Q .normal tm h else Q (.exit i) tm h
  | e, tm, h => Q e tm h
/-- A region that draws its order. -/
def ADraw (P : Program) (n : Nat) (ops : Array Oper) (Q : Exit → Tm → Heap → Prop) (tm : Tm) (h : Heap) : Prop := ∀ id, AWp P n (.region id ops true) Q tm h
def W (P : Program) (n : Nat) : Code → (Exit → Tm → Heap → Prop) → Tm → Heap → Prop
  | .skip, Q, tm, h => Q .normal tm h
  | .label _, Q, tm, h => Q .normal tm h
  | .region _ ops false, Q, tm, h => aops P ops Q ops.toList tm h
  | .region _ ops true, Q, tm, h => ADraw P n ops Q tm h
  | .seq a b, Q, tm, h => W P n a (thenK (W P n b Q) Q) tm h
  | .cond c a b, Q, tm, h => (match ev tm c with | .bool t => (t = true → W P n a Q tm h) ∧ (t = false → W P n b Q tm h) | _ => False)
  | .block id b, Q, tm, h => W P n b (blockK id Q) tm h
  | .loop b, Q, tm, h => ∃ (I : Tm → Heap → Prop) (μ : Tm → Heap → Nat), I tm h ∧ ∀ tm h, I tm h → W P n b (thenK (fun tm' h' => I tm' h' ∧ μ tm' h' < μ tm h) Q) tm h
  | .exit id, Q, tm, h => Q (.exit id) tm h
  | .ret, Q, tm, h => Q .ret tm h
  | .scope c, Q, tm, h => W P n c Q tm h
  | .rangeFunc f ps as b, Q, tm, h => AWpR none P n (.rangeFunc f ps as b) Q tm h
  | _, _, _, _ => False
/-- No range over a function in it. -/
def flat : Code → Bool
  | .seq a b => flat a && flat b
  | .cond _ a b => flat a && flat b
  | .block _ b => flat b
  | .loop b => flat b
  | .scope b => flat b
  | .rangeFunc _ _ _ _ => false
  | _ => true

def dstOk (n : Nat) (o : Oper) : Bool := match o.dst with | some d => d < n | none => true
def opsOk (P : Program) (n : Nat) (ops : Array Oper) : Bool := ops.toList.all fun o => dstOk n o && o.op.operands.toList.all (oprOk P n)
def codeOk (P : Program) (n : Nat) : Code → Bool
  | .region _ ops _ => opsOk P n ops
  | .seq a b => codeOk P n a && codeOk P n b
  | .cond c a b => oprOk P n c && codeOk P n a && codeOk P n b
  | .block _ b => codeOk P n b
  | .loop b => codeOk P n b
  | .scope b => codeOk P n b
  | .rangeFunc f ps a b => oprOk P n f && ps.toList.all (fun t => decide (t < n)) && codeOk P n a && codeOk P n b && flat a && flat b
  | _ => true

section
variable {P : Program} {w0 w : World} {ρ : Ren} {h : Heap} {n : Nat} {tm : Tm} {a : Act} {Q : Exit → Tm → Heap → Prop}
theorem TR.get (T : TR ρ n tm a) {t : Nat} (ht : t < n) : ∃ x, a.tmps[t]? = some x ∧ VR ρ (tm t) x := by
  have hs : t < a.tmps.size := by rw [T.size]; exact ht
  have := T.vals t ht
  rw [Array.getD_eq_getD_getElem?, Array.getElem?_eq_getElem hs, Option.getD_some] at this
  exact ⟨_, Array.getElem?_eq_getElem hs, this⟩
theorem TR.put (T : TR ρ n tm a) {d : Option Tmp} {v v' : Value} (hv : VR ρ v v') : TR ρ n (aput tm d v) (a.put d v') := by
  cases d with
  | none => exact T
  | some d =>
    refine ⟨by simp [Act.put, T.size], fun t ht => ?_⟩
    obtain ⟨x, hx, hr⟩ := T.get ht
    have hlt : t < a.tmps.size := by rw [T.size]; exact ht
    simp only [aput, Act.put, Array.getD_eq_getD_getElem?, Array.getElem?_setIfInBounds]
    by_cases e : t = d
    · subst e
      rw [if_pos rfl, if_pos rfl, if_pos hlt]
      exact hv
    · rw [if_neg e, if_neg (Ne.symm e), hx]
      exact hr
theorem put_defers (a : Act) (d : Option Tmp) (v : Value) : (a.put d v).defers = a.defers := by cases d <;> rfl
theorem Post.mono {Q' : Exit → Tm → Heap → Prop} {ρ1 : Ren} {ds ds1 : List Deferred} (hρ : RenLe ρ1 ρ) (hd : DT ρ1 ρ ds1 ds) (hq : ∀ e tm h, Q e tm h → Q' e tm h) {e : Exit} (H : Post P w0 ρ n Q ds e a w) : Post P w0 ρ1 n Q' ds1 e a w := by
  obtain ⟨e0, tm', h', ρ', q, x, r, hr, t, d⟩ := H
  exact ⟨e0, tm', h', ρ', hq _ _ _ q, x, hρ.trans r, hr, t, DT.trans hρ r hd d⟩
theorem AWp.mono {c : Code} {Q' : Exit → Tm → Heap → Prop} (H : AWp P n c Q tm h) (hq : ∀ e tm h, Q e tm h → Q' e tm h) : AWp P n c Q' tm h :=
  fun ro w0 ρ w a hr t => wpIn_mono (H ro w0 ρ w a hr t) fun e a w p => p.mono (RenLe.refl _) (DT.refl _ _) hq
theorem callsIn_FO {ro : Option Nat} {f : FuncId} {args : Array Value} {R : Ending → World → Prop} (h : Calls P f args w R) : CallsIn (FO ro) 0 P f args w R := by
  have h0 : CallsIn Fence.wide 0 P f args w R := callsIn_wide.2 h
  cases ro with
  | none => exact h0
  | some l => exact h0
theorem FO_about {ro : Option Nat} {o : Oper} {a : Act} : ∀ f, o.about P w a.eval = some f → (FO ro).fn f := fun _ _ => trivial
theorem yielded_rel {all : Array Oper} (hall : opsOk P n all = true) (T : TR ρ n tm a) (j : Nat) : yielded all a.tmps j = gval all tm j := by
  unfold yielded gval
  cases ho : all[j]? with
  | none => simp
  | some o =>
    simp only [Option.bind_some]
    cases hd : o.dst with
    | none => simp
    | some d =>
      have hlt : d < n := by
        have hm : o ∈ all.toList := by simpa using Array.mem_of_getElem? ho
        have := (List.all_eq_true.1 hall) o hm
        simp only [Bool.and_eq_true, dstOk, hd, decide_eq_true_eq] at this
        exact this.1
      obtain ⟨x, hx, hv⟩ := T.get hlt
      simp only [Option.bind_some, hx]
      have hk := vkind_eq hv
      cases ht : tm d <;> rw [ht] at hk hv <;> simp only [boolOf] <;> first
        | (rw [hv.bool_inv]; done)
        | (cases x <;> simp only [vkind] at hk <;> first | (exfalso; omega) | rfl)
theorem callOf_nd {op : Op} {x : Operand × Array Operand} (h : callOf op = some x) : ∀ c, op ≠ .defer c := by rintro c rfl; cases h
theorem aop_nd {op : Op} {v : Value} (h : aop P tm h op = some v) : ∀ c, op ≠ .defer c := by rintro c rfl; simp [aop] at h
theorem aeff_nd {op : Op} {x : Value × Heap} (hx : aeff P tm h op = some x) : ∀ c, op ≠ .defer c := by rintro c rfl; simp [aeff] at hx
theorem step_scopeR {b : Frame} {k : List Item} {cs : List Frame} {c : Code} : step P (lone (b.atR a (.code (.scope c) :: k)) cs w) = .next (lone (b.atR a (.code c :: .inScope c :: k)) cs w) :=
  step_lone_go (by simp [stepG, stepG.exec, Frame.atR])
theorem step_inScopeR {b : Frame} {k : List Item} {cs : List Frame} {c : Code} : step P (lone (b.atR a (.inScope c :: k)) cs w) = .next (lone (b.atR a k) cs w) :=
  step_lone_go (by simp [stepG, stepG.exec, Frame.atR])
theorem wpIn_scope {F : Fence} {m : Nat} {c : Code} {Q : Exit → Act → World → Prop} (h : c.wpIn F m P (Exit.noGoto Q) a w) : (Code.scope c).wpIn F m P Q a w := by
  intro b k cs hro hb hr
  obtain ⟨e, a₁, w₁, hq, harr⟩ := h b (.inScope c :: k) cs hro hb hr
  have h0 : StepsIn (Machine.fenced P F) P (lone (b.atR a (.code (.scope c) :: k)) cs w) (lone (b.atR a (.code c :: .inScope c :: k)) cs w) := .one (fenced_calm hb hr rfl) step_scopeR
  cases e with
  | normal => exact ⟨.normal, a₁, w₁, hq, StepsIn.trans h0 (StepsIn.trans harr (.one (fenced_calm hb hr rfl) step_inScopeR))⟩
  | exit id => exact ⟨.exit id, a₁, w₁, hq, .of_steps h0 ⟨fun k' hk => harr.1 k' (by simp [exitTo, hk]), fun hr hk => harr.2 hr (by simp [exitTo, hk])⟩⟩
  | goto l => exact hq.elim
  | ret => exact ⟨_, a₁, w₁, hq, .of_steps h0 harr⟩
  | panic ch => exact ⟨_, a₁, w₁, hq, .of_steps h0 harr⟩
  | outgrown => exact ⟨_, a₁, w₁, hq, .of_steps h0 harr⟩
theorem stepV_sound {ro : Option Nat} {o : Oper} {R : Value → Heap → Prop} {X : Value → Heap → Prop} (hs : stepV P o tm h R X) (H : HRel P w0 ρ h w) (T : TR ρ n tm a) (hok : ∀ x, x ∈ o.op.operands → oprOk P n x = true)
    {Kc : Act → World → Prop} {Qc : Exit → Act → World → Prop} (hK : ∀ v v' h' ρ' w', RenLe ρ ρ' → HRel P w0 ρ' h' w' → VR ρ' v v' → R v h' → Kc (a.put o.dst v') w')
    (hX : ∀ v v' h' ρ' w', RenLe ρ ρ' → HRel P w0 ρ' h' w' → VR ρ' v v' → X v h' → Qc (raised v') a w') : o.wpIn (FO ro) 0 P a w Kc Qc := by
  refine ⟨FO_about, ?_⟩
  unfold stepV at hs
  split at hs
  · rename_i f args hop
    rw [Oper.semAt_eq _ _ _ (callOf_nd hop)]
    obtain ⟨ts, hop⟩ := callOf_eq hop
    split at hs
    · rename_i g first cap hf
      obtain ⟨hb, hs⟩ := hs
      have hfr := ev_rel H T (hok f (by rw [hop]; simp [Op.operands, Call.operands]))
      rw [hf] at hfr
      obtain ⟨first', cap', he, hr1, hr2⟩ := hfr.func_inv'
      have hargs := evs_rel H T (xs := args) (fun x hx => hok x (by rw [hop]; simp [Op.operands, Call.operands, hx]))
      have hrun : (execOp a.eval o).run P w = .ok (.enter g (first' ++ args.map a.eval ++ cap')) w := by
        unfold hasBody at hb
        split at hb
        · rename_i fn hfn
          simp only [Bool.and_eq_true, bne_iff_ne, ne_eq] at hb
          have hbn : fn.body.isNone = false := by cases hbd : fn.body with
            | none => rw [hbd] at hb; simp at hb
            | some _ => rfl
          simp only [execOp, hop, resolve, he, Deferred.ofValue, Sem.run_bind, Sem.run_pure, Result.andThen_ok, invoke, callFunc, run_program, hfn, beq_iff_eq, hb.2, if_false, hbn, Bool.false_eq_true]
        · cases hb
      rw [hrun]
      refine ⟨(fun h => by cases h), (callsIn_FO (hs w0 ρ w _ H ((hr1.append hargs).append hr2))).mono fun e w' hp => ?_⟩
      obtain ⟨ρ', h', v, v', h1, h2, h3, h4⟩ := hp
      rcases h4 with ⟨rfl, hq⟩ | ⟨rfl, hq⟩
      · exact hK v v' h' ρ' w' h1 h2 h3 hq
      · exact hX v v' h' ρ' w' h1 h2 h3 hq
    · rename_i b first cap hf
      obtain ⟨rfl, rfl, hs⟩ := hs
      have hfr := ev_rel H T (hok f (by rw [hop]; simp [Op.operands, Call.operands]))
      rw [hf] at hfr
      obtain ⟨l, first', cap', he, hm, hr1, hr2⟩ := hfr.yield_inv
      obtain rfl : first' = #[] := by have := hr1.1; simpa using this.symm
      obtain rfl : cap' = #[] := by have := hr2.1; simpa using this.symm
      have hargs := evs_rel H T (xs := args) (fun x hx => hok x (by rw [hop]; simp [Op.operands, Call.operands, hx]))
      obtain ⟨L, fn, tmps, asg, body, hL, hy, hround⟩ := hs w0 ρ w _ H hargs
      obtain ⟨L', hL', rfl⟩ := hm
      rw [hL] at hL'; cases hL'
      have hrun : (execOp a.eval o).run P w = .ok (.round L.blk fn tmps asg body) w := by
        simp only [execOp, hop, resolve, he, Deferred.ofValue, Sem.run_bind, Sem.run_pure, Result.andThen_ok, invoke]
        simpa using hy
      rw [hrun]
      refine ⟨(fun h => by cases h), RoundIn.mono (F := FO ro) hround fun e w' hp => ?_⟩
      obtain ⟨ρ', h', v, v', h1, h2, h3, h4⟩ := hp
      rcases h4 with ⟨rfl, hq⟩ | ⟨rfl, hq⟩
      · exact hK v v' h' ρ' w' h1 h2 h3 hq
      · exact hq.elim
    · exact hs.elim
  · split at hs
    · rename_i v hv
      obtain ⟨v', h1, h2⟩ := aop_sound H T hok hv
      rw [Oper.semAt_eq _ _ _ (aop_nd hv), h1]
      exact hK v v' h ρ w (RenLe.refl _) H h2 hs
    · split at hs
      · rename_i v h' hv
        obtain ⟨v', w', ρ', h1, h2, h3, h4⟩ := aeff_sound H T hok hv
        rw [Oper.semAt_eq _ _ _ (aeff_nd hv)]
        rcases h1 with h1 | ⟨rfl, h1⟩
        · rw [h1]; exact hK v _ h' ρ' w' h2 h3 h4 hs
        · rw [h1]; exact hK v _ h' ρ' w' h2 h3 h4 hs
      · split at hs
        · rename_i x hx
          have hop := panicOf_eq hx
          unfold raiseV at hs
          split at hs
          · rename_i t v he
            have hr := ev_rel H T (hok x (by rw [hop]; simp [Op.operands]))
            rw [he] at hr
            obtain ⟨v', he', hv⟩ := hr.iface_inv
            rw [Oper.semAt_eq _ _ _ (by rw [hop]; rintro c e; cases e)]
            have hrun : (execOp a.eval o).run P w = .halt (.panic (.iface t v')) w := by
              simp only [execOp, hop, he', Instr.panic, Sem.run_bind]
              rfl
            rw [hrun]
            exact hX _ _ h ρ w (RenLe.refl _) H (VR.iface hv) hs
          · exact hs.elim
        · split at hs
          · rename_i u hu
            obtain ⟨x, xt, y, t, v, hop, he, hd, rfl, rfl⟩ := assertV_eq hu
            have hr := ev_rel H T (hok x (by rw [hop]; simp [Op.operands]))
            rw [he] at hr
            obtain ⟨v', he', hv⟩ := hr.iface_inv
            rw [Oper.semAt_eq _ _ _ (by rw [hop]; rintro c e; cases e)]
            have hrun : (execOp a.eval o).run P w = .ok (.value (.tuple #[v', .bool true])) w := by
              simp only [execOp, hop, he', Instr.typeAssert, Sem.run_bind]
              rcases hd with ⟨fs, hd⟩ | ⟨m, e, hd⟩
              · simp [run_underlying hd]
              · simp [run_underlying hd]
            rw [hrun]
            exact hK _ _ h ρ w (RenLe.refl _) H (VR.tuple (AR.push (AR.push AR.nil hv) (VR.bool true))) hs
          · split at hs
            · rename_i g as hg
              obtain ⟨hb, hs⟩ := hs
              obtain ⟨x, name, args, ts, t, p, e, b, r, hop, he, hu, hm, rfl, hr⟩ := invV_eq hg
              rw [Oper.semAt_eq _ _ _ (by rw [hop]; rintro c e; cases e)]
              have hxr := ev_rel H T (hok x (by rw [hop]; simp [Op.operands, Call.operands]))
              rw [he] at hxr
              obtain ⟨v', he', hv⟩ := hxr.iface_inv
              obtain ⟨p', rfl, hp⟩ := hv.ptr_inv
              have hargs := evs_rel H T (xs := args) (fun x hx => hok x (by rw [hop]; simp [Op.operands, Call.operands, hx]))
              obtain ⟨r', hrr, hmr⟩ : ∃ r', VR ρ r r' ∧ ∀ k, (method (k + 1) t (.pointer (some p')) name).run P w = .ok (g, r') w := by
                unfold methF at hm
                obtain ⟨i, hi, hm⟩ := Option.bind_eq_some_iff.1 hm
                obtain ⟨m, hm1, hm⟩ := Option.bind_eq_some_iff.1 hm
                have hpath : m.path.toList = [] := by
                  split at hm
                  · rename_i hpe; simpa using hpe
                  · cases hm
                rw [if_pos (by rw [hpath]; rfl)] at hm
                have hpe : m.path = #[] := Array.ext' hpath
                rcases hr with ⟨rfl, rfl⟩ | ⟨rfl, hl⟩
                · refine ⟨_, VR.ptr hp, fun k => ?_⟩
                  simp [method, typeInfo, hi, hm1, hpath, follow, hm, receiverAt, run_underlying hu, Place.get]
                · obtain ⟨r', h1, h2⟩ := load_rel H hp hl
                  refine ⟨r', h2, fun k => ?_⟩
                  have hsw : ∀ (pt : Array TypeId) (xt : TypeId) (s m : ByteArray), (Builtin.ssaWrapNilChk_ pt xt #[.pointer (some p'), .string s, .string m]).run P w = .ok (.pointer (some p')) w := fun _ _ _ _ => rfl
                  simp [method, typeInfo, hi, hm1, hpath, hpe, follow, hm, receiverAt, run_underlying hu, Place.get, hsw, strVal, asAddr, h1]
              have hrun : (execOp a.eval o).run P w = .ok (.enter g (#[r'] ++ args.map a.eval)) w := by
                unfold hasBody at hb
                split at hb
                · rename_i fn hfn
                  simp only [Bool.and_eq_true, bne_iff_ne, ne_eq] at hb
                  have hbn : fn.body.isNone = false := by cases hbd : fn.body with
                    | none => rw [hbd] at hb; simp at hb
                    | some _ => rfl
                  obtain ⟨k, hk⟩ : ∃ k, P.types.size + Made.depth = k + 1 := ⟨P.types.size + Made.depth - 1, by
                    have : 0 < Made.depth := by decide
                    omega⟩
                  have hex : (#[Value.iface t (.pointer (some p'))] ++ args.map a.eval).extract 1 (#[Value.iface t (.pointer (some p'))] ++ args.map a.eval).size = args.map a.eval := by
                    refine Array.ext' ?_
                    simp only [Array.toList_extract, Array.toList_append, Array.size_append, List.extract_eq_take_drop, List.drop_succ_cons, List.drop_zero, List.cons_append, List.nil_append]
                    exact List.take_of_length_le (by simp)
                  have h00 : (#[Value.iface t (.pointer (some p'))] ++ args.map a.eval)[0]? = some (.iface t (.pointer (some p'))) := by
                    rw [Array.getElem?_append_left (by simp)]; rfl
                  simp only [execOp, hop, resolve, he', Sem.run_bind, Sem.run_pure, Result.andThen_ok, invoke, h00, callMethod, run_program, hk, hmr k, hex, callFunc, hfn, beq_iff_eq, hb.2, if_false, hbn, Bool.false_eq_true]
                · cases hb
              rw [hrun]
              refine ⟨(fun h => by cases h), (callsIn_FO (hs w0 ρ w _ H ((AR.push AR.nil hrr).append hargs))).mono fun e w' hp => ?_⟩
              obtain ⟨ρ', h', v, v', h1, h2, h3, h4⟩ := hp
              rcases h4 with ⟨rfl, hq⟩ | ⟨rfl, hq⟩
              · exact hK v v' h' ρ' w' h1 h2 h3 hq
              · exact hX v v' h' ρ' w' h1 h2 h3 hq
            · exact hs.elim
theorem stepK_sound {ro : Option Nat} {o : Oper} {K : Tm → Heap → Prop} {X : Value → Heap → Prop} (hs : stepK P o tm h K X) (H : HRel P w0 ρ h w) (T : TR ρ n tm a) (hok : ∀ x, x ∈ o.op.operands → oprOk P n x = true)
    {Kc : Act → World → Prop} {Qc : Exit → Act → World → Prop} (hK : ∀ tm' h' ρ' w' a', RenLe ρ ρ' → HRel P w0 ρ' h' w' → TR ρ' n tm' a' → a'.defers = a.defers → K tm' h' → Kc a' w')
    (hX : ∀ v v' h' ρ' w', RenLe ρ ρ' → HRel P w0 ρ' h' w' → VR ρ' v v' → X v h' → Qc (raised v') a w') : o.wpIn (FO ro) 0 P a w Kc Qc :=
  stepV_sound hs H T hok (fun v v' h' ρ' w' r H' hv hr => hK _ h' ρ' w' _ r H' ((T.mono r).put hv) (put_defers _ _ _) hr) hX
theorem EX.raised {ρ : Ren} {v v' : Value} (h : VR ρ v v') : EX ρ (raised v) (raised v') := .inr (.inr (.inr ⟨v, v', rfl, rfl, h⟩))
theorem aops_sound {ro : Option Nat} {all : Array Oper} (hall : opsOk P n all = true) : ∀ (rest : List Oper), (∀ o, o ∈ rest → o ∈ all.toList) → ∀ (tm : Tm) (h : Heap), aops P all Q rest tm h →
    ∀ w0 ρ w a ρ0 ds, RenLe ρ0 ρ → DT ρ0 ρ ds a.defers → HRel P w0 ρ h w → TR ρ n tm a → wpListIn (FO ro) 0 P all (Post P w0 ρ0 n Q ds) rest a w := by
  intro rest
  induction rest with
  | nil =>
    intro _ tm h hq w0 ρ w a ρ0 ds hρ D H T
    exact ⟨.normal, tm, h, ρ, hq, .inl ⟨rfl, rfl⟩, hρ, H, T, D⟩
  | cons o rest ih =>
    intro hsub tm h hq w0 ρ w a ρ0 ds hρ D H T
    have hm := hsub o (by simp)
    have hoo := (List.all_eq_true.1 hall) o hm
    simp only [Bool.and_eq_true] at hoo
    have hok : ∀ x, x ∈ o.op.operands → oprOk P n x = true := fun x hx => (List.all_eq_true.1 hoo.2) x (by simpa using hx)
    have hsub' : ∀ o, o ∈ rest → o ∈ all.toList := fun o ho => hsub o (by simp [ho])
    have step : stepK P o tm h (aops P all Q rest) (fun v h' => Q (raised v) tm h') → o.wpIn (FO ro) 0 P a w (wpListIn (FO ro) 0 P all (Post P w0 ρ0 n Q ds) rest) (Post P w0 ρ0 n Q ds) := fun hs =>
      stepK_sound hs H T hok (fun tm' h' ρ' w' a' r H' T' hd hk => ih hsub' tm' h' hk w0 ρ' w' a' ρ0 ds (hρ.trans r) (by rw [hd]; exact D.mono r) H' T')
        (fun v v' h' ρ' w' r H' hv hk => ⟨raised v, tm, h', ρ', hk, EX.raised hv, hρ.trans r, H', T.mono r, D.mono r⟩)
    have skip : aops P all Q rest (aput tm o.dst undef) h → wpListIn (FO ro) 0 P all (Post P w0 ρ0 n Q ds) rest (a.put o.dst undef) w := fun hk => ih hsub' _ h hk w0 ρ w _ ρ0 ds hρ (by rw [put_defers]; exact D) H (T.put VR.undef)
    unfold wpListIn
    unfold aops gate at hq
    split at hq
    · rename_i hg
      rw [if_pos (by simp [Region.wanted, hg])]
      exact step hq
    · rename_i j want hg
      have hy := yielded_rel hall T j
      split at hq
      · rename_i b hb
        by_cases e : b = want
        · rw [if_pos (by simp [Region.wanted, hg, hy, hb, e])]
          exact step (hq.1 e)
        · rw [if_neg (by simp [Region.wanted, hg, hy, hb, e])]
          exact ⟨FO_about, skip (hq.2 (by cases b <;> cases want <;> simp_all))⟩
      · rename_i hb
        rw [if_neg (by simp [Region.wanted, hg, hy, hb])]
        exact ⟨FO_about, skip hq⟩
/-- A loop whose measure is told beside its relation. -/
theorem wp_loop_rel {F : Fence} {m : Nat} {c : Code} {Q : Exit → Act → World → Prop} (I : Nat → Act → World → Prop) (h0 : ∃ k, I k a w)
    (round : ∀ k a w, I k a w → c.wpIn F m P (Exit.then (fun a' w' => ∃ k', k' < k ∧ I k' a' w') Q) a w) : (Code.loop c).wpIn F m P Q a w := by
  obtain ⟨k, hk⟩ := h0
  have hex : ∀ a w, (∃ k, I k a w) → ∃ k, I k a w ∧ ∀ j, I j a w → k ≤ j := fun a w ⟨k, hk⟩ => by
    induction k using Nat.strongRecOn with
    | _ k ih =>
      by_cases hx : ∃ j, j < k ∧ I j a w
      · obtain ⟨j, hj, hij⟩ := hx; exact ih j hj hij
      · exact ⟨k, hk, fun j hj => Nat.le_of_not_lt fun hlt => hx ⟨j, hlt, hj⟩⟩
  refine wpIn_loop (fun a w => ∃ k, I k a w) (fun a w => open Classical in if hx : ∃ k, I k a w then (hex a w hx).choose else 0) ⟨k, hk⟩ fun a w hi => ?_
  have hc := (hex a w hi).choose_spec
  refine wpIn_mono (round _ a w hc.1) fun e a' w' q => ?_
  cases e with
  | normal =>
    obtain ⟨k', hlt, hk'⟩ := q
    refine ⟨⟨k', hk'⟩, ?_⟩
    have hi' : ∃ k, I k a' w' := ⟨k', hk'⟩
    simp only [dif_pos hi, dif_pos hi']
    exact Nat.lt_of_le_of_lt ((hex a' w' hi').choose_spec.2 k' hk') hlt
  | _ => exact q
theorem W_sound {ro : Option Nat} : ∀ (c : Code) (Q : Exit → Tm → Heap → Prop) (tm : Tm) (h : Heap), codeOk P n c = true → (ro = none ∨ flat c = true) → W P n c Q tm h → AWpR ro P n c Q tm h := by
  have nrm : ∀ {Q : Exit → Tm → Heap → Prop} {tm h e w0 ρ w a}, Q e tm h → EX ρ e e → HRel P w0 ρ h w → TR ρ n tm a → Post P w0 ρ n Q a.defers e a w := fun q x H T => ⟨_, _, _, _, q, x, RenLe.refl _, H, T, DT.refl _ _⟩
  intro c
  induction c with
  | skip => exact fun Q tm h _ _ hw w0 ρ w a H T => wpIn_skip (nrm hw (.inl ⟨rfl, rfl⟩) H T)
  | label l => exact fun Q tm h _ _ hw w0 ρ w a H T => wpIn_label (nrm hw (.inl ⟨rfl, rfl⟩) H T)
  | region id ops draw =>
    intro Q tm h hok _ hw
    cases draw with
    | false => exact fun w0 ρ w a H T => wpIn_region_list (aops_sound hok ops.toList (fun _ h => h) tm h hw w0 ρ w a ρ a.defers (RenLe.refl _) (DT.refl _ _) H T)
    | true => exact hw id ro
  | seq x y ihx ihy =>
    intro Q tm h hok hf hw w0 ρ w a H T
    simp only [codeOk, Bool.and_eq_true] at hok
    have hfx : ro = none ∨ flat x = true := hf.imp id fun e => by simp only [flat, Bool.and_eq_true] at e; exact e.1
    have hfy : ro = none ∨ flat y = true := hf.imp id fun e => by simp only [flat, Bool.and_eq_true] at e; exact e.2
    refine wpIn_seq (wpIn_mono (ihx _ tm h hok.1 hfx hw w0 ρ w a H T) ?_)
    rintro e a' w' ⟨e0, tm', h', ρ', q, x, r, H', T', D'⟩
    rcases x with ⟨rfl, rfl⟩ | ⟨i, rfl, rfl⟩ | ⟨rfl, rfl⟩ | ⟨v, v', rfl, rfl, hv⟩
    · exact wpIn_mono (ihy Q tm' h' hok.2 hfy q w0 ρ' w' a' H' T') fun e a w p => p.mono r D' (fun _ _ _ h => h)
    · exact ⟨_, tm', h', ρ', q, .inr (.inl ⟨i, rfl, rfl⟩), r, H', T', D'⟩
    · exact ⟨_, tm', h', ρ', q, .inr (.inr (.inl ⟨rfl, rfl⟩)), r, H', T', D'⟩
    · exact ⟨_, tm', h', ρ', q, EX.raised hv, r, H', T', D'⟩
  | cond c x y ihx ihy =>
    intro Q tm h hok hf hw w0 ρ w a H T
    simp only [codeOk, Bool.and_eq_true] at hok
    have hfx : ro = none ∨ flat x = true := hf.imp id fun e => by simp only [flat, Bool.and_eq_true] at e; exact e.1
    have hfy : ro = none ∨ flat y = true := hf.imp id fun e => by simp only [flat, Bool.and_eq_true] at e; exact e.2
    unfold W at hw
    split at hw
    · rename_i t ht
      have hc := ev_rel H T hok.1.1
      rw [ht] at hc
      refine wpIn_cond hc.bool_inv ?_
      cases t with
      | true => exact ihx Q tm h hok.1.2 hfx (hw.1 rfl) w0 ρ w a H T
      | false => exact ihy Q tm h hok.2 hfy (hw.2 rfl) w0 ρ w a H T
    · exact hw.elim
  | block id b ih =>
    intro Q tm h hok hf hw w0 ρ w a H T
    refine wpIn_block (wpIn_mono (ih _ tm h hok (hf.imp (fun e => e) (fun e => e)) hw w0 ρ w a H T) ?_)
    rintro e a' w' ⟨e0, tm', h', ρ', q, x, r, H', T', D'⟩
    rcases x with ⟨rfl, rfl⟩ | ⟨i, rfl, rfl⟩ | ⟨rfl, rfl⟩ | ⟨v, v', rfl, rfl, hv⟩
    · exact ⟨_, tm', h', ρ', q, .inl ⟨rfl, rfl⟩, r, H', T', D'⟩
    · simp only [blockK] at q
      simp only [Exit.inBlock]
      split at q
      · rename_i e; rw [if_pos e]; exact ⟨_, tm', h', ρ', q, .inl ⟨rfl, rfl⟩, r, H', T', D'⟩
      · rename_i e; rw [if_neg e]; exact ⟨_, tm', h', ρ', q, .inr (.inl ⟨i, rfl, rfl⟩), r, H', T', D'⟩
    · exact ⟨_, tm', h', ρ', q, .inr (.inr (.inl ⟨rfl, rfl⟩)), r, H', T', D'⟩
    · exact ⟨_, tm', h', ρ', q, EX.raised hv, r, H', T', D'⟩
  | loop b ih =>
    intro Q tm h hok hf hw w0 ρ w a H T
    obtain ⟨I, μ, hi, hround⟩ := hw
    refine wp_loop_rel (fun k a' w => ∃ tm' h' ρ', I tm' h' ∧ μ tm' h' = k ∧ RenLe ρ ρ' ∧ HRel P w0 ρ' h' w ∧ TR ρ' n tm' a' ∧ DT ρ ρ' a.defers a'.defers) ⟨_, tm, h, ρ, hi, rfl, RenLe.refl _, H, T, DT.refl _ _⟩ ?_
    rintro k a1 w ⟨tm', h', ρ', hi', hk, r, H', T', D'⟩
    refine wpIn_mono (ih _ tm' h' hok (hf.imp id (fun e => e)) (hround tm' h' hi') w0 ρ' w a1 H' T') ?_
    rintro e a2 w2 ⟨e0, tm2, h2, ρ2, q, x, r2, H2, T2, D2⟩
    have D3 := DT.trans r r2 D' D2
    rcases x with ⟨rfl, rfl⟩ | ⟨i, rfl, rfl⟩ | ⟨rfl, rfl⟩ | ⟨v, v', rfl, rfl, hv⟩
    · exact ⟨_, by rw [← hk]; exact q.2, tm2, h2, ρ2, q.1, rfl, r.trans r2, H2, T2, D3⟩
    · exact ⟨_, tm2, h2, ρ2, q, .inr (.inl ⟨i, rfl, rfl⟩), r.trans r2, H2, T2, D3⟩
    · exact ⟨_, tm2, h2, ρ2, q, .inr (.inr (.inl ⟨rfl, rfl⟩)), r.trans r2, H2, T2, D3⟩
    · exact ⟨_, tm2, h2, ρ2, q, EX.raised hv, r.trans r2, H2, T2, D3⟩
  | exit id => exact fun Q tm h _ _ hw w0 ρ w a H T => wpIn_exit (nrm hw (.inr (.inl ⟨id, rfl, rfl⟩)) H T)
  | ret => exact fun Q tm h _ _ hw w0 ρ w a H T => wpIn_ret (nrm hw (.inr (.inr (.inl ⟨rfl, rfl⟩))) H T)
  | rangeFunc f ps as b _ _ =>
    intro Q tm h _ hf hw
    rcases hf with rfl | hf
    · exact hw
    · cases hf
  | scope b ih =>
    intro Q tm h hok hf hw w0 ρ w a H T
    refine wpIn_scope (wpIn_mono (ih Q tm h hok (hf.imp id (fun e => e)) hw w0 ρ w a H T) ?_)
    rintro e a' w' ⟨e0, tm', h', ρ', q, x, r, H', T', D'⟩
    rcases x with ⟨rfl, rfl⟩ | ⟨i, rfl, rfl⟩ | ⟨rfl, rfl⟩ | ⟨v, v', rfl, rfl, hv⟩
    · exact ⟨_, tm', h', ρ', q, .inl ⟨rfl, rfl⟩, r, H', T', D'⟩
    · exact ⟨_, tm', h', ρ', q, .inr (.inl ⟨i, rfl, rfl⟩), r, H', T', D'⟩
    · exact ⟨_, tm', h', ρ', q, .inr (.inr (.inl ⟨rfl, rfl⟩)), r, H', T', D'⟩
    · exact ⟨_, tm', h', ρ', q, EX.raised hv, r, H', T', D'⟩
  | goto l => exact fun Q tm h _ _ hw => hw.elim
  | refuse s => exact fun Q tm h _ _ hw => hw.elim

/-- What a function hands back. -/
def resV (P : Program) (h : Heap) (tm : Tm) : ResultVar → Option Value
  | .tmp t => some (tm t)
  | .cell a t => (match tm a with | .pointer (some x) => aload P h t x | _ => none)
def resList (P : Program) (h : Heap) (tm : Tm) : List ResultVar → Option (List Value)
  | [] => some []
  | r :: rs => (match resV P h tm r, resList P h tm rs with | some v, some l => some (v :: l) | _, _ => none)
def resOf (P : Program) (h : Heap) (tm : Tm) (rs : Array ResultVar) : Option Value :=
  match rs.toList with
  | [r] => resV P h tm r
  | l => (match resList P h tm l with | some l => some (.tuple l.toArray) | none => none)
def resOk (n : Nat) (rs : Array ResultVar) : Bool := rs.toList.all fun | .tmp t => t < n | .cell a _ => a < n
def optV (o : Option Value) (K : Value → Prop) : Prop := match o with | some v => K v | none => False
def retK (P : Program) (rs : Array ResultVar) (Qr Qp : Value → Heap → Prop) : Exit → Tm → Heap → Prop
  | .normal, tm, h => optV (resOf P h tm rs) (fun v => Qr v h)
  | .ret, tm, h => optV (resOf P h tm rs) (fun v => Qr v h)
  | .panic l, _, h => (match l with | [e] => e.recovered = false ∧ e.goexit = false ∧ Qp e.v h | _ => False)
  | _, _, _ => False
def atm (args : Array Value) : Tm := fun t => args.getD t undef
end
end Go.Proofs.YthmpaddhmgnkbaaDoor.Am
end
