/- The frame Am, twelfth text: the equations by which a walk goes on, operation by operation. Nothing of a program stands here. -/
import Derived.Test.YtgfccaaalkkdlaaAmCall
set_option linter.unusedVariables false
set_option linter.unusedSimpArgs false
namespace Go.Proofs.Ytgfccaaalkkdlaa.Am
open Go Go.RowKit

def nextK (P : Program) (all : Array Oper) (Q : Exit → Tm → Heap → Prop) (rest : List Oper) (tm : Tm) (d : Option Tmp) (h : Heap) (v : Value) : Prop := aops P all Q rest (aput tm d v) h
def nextH (P : Program) (all : Array Oper) (Q : Exit → Tm → Heap → Prop) (rest : List Oper) (tm : Tm) (d : Option Tmp) (v : Value) (h : Heap) : Prop := aops P all Q rest (aput tm d v) h
def panicK (Q : Exit → Tm → Heap → Prop) (tm : Tm) (v : Value) (h : Heap) : Prop := Q (raised v) tm h
def optK (o : Option Value) (K : Value → Prop) : Prop := match o with | some v => K v | none => False
def optH (o : Option (Value × Heap)) (K : Value → Heap → Prop) : Prop := match o with | some (v, h) => K v h | none => False
theorem optK_some {v : Value} {K : Value → Prop} : optK (some v) K = K v := propext Iff.rfl
theorem optH_some {v : Value} {h : Heap} {K : Value → Heap → Prop} : optH (some (v, h)) K = K v h := propext Iff.rfl
theorem nextK_eq {P all Q rest tm d h v} : nextK P all Q rest tm d h v = aops P all Q rest (aput tm d v) h := propext Iff.rfl
theorem nextH_eq {P all Q rest tm d h v} : nextH P all Q rest tm d v h = aops P all Q rest (aput tm d v) h := propext Iff.rfl
def condK (v : Value) (A B : Tm → Heap → Prop) (tm : Tm) (h : Heap) : Prop := match v with | .bool t => (t = true → A tm h) ∧ (t = false → B tm h) | _ => False
theorem condK_true {A B : Tm → Heap → Prop} {tm : Tm} {h : Heap} : condK (.bool true) A B tm h = A tm h := by simp [condK]
theorem condK_false {A B : Tm → Heap → Prop} {tm : Tm} {h : Heap} : condK (.bool false) A B tm h = B tm h := by simp [condK]
theorem condK_split {t : Bool} {A B : Tm → Heap → Prop} {tm : Tm} {h : Heap} (h1 : t = true → A tm h) (h2 : t = false → B tm h) : condK (.bool t) A B tm h := ⟨h1, h2⟩
theorem condK_dec {p : Prop} [Decidable p] {A B : Tm → Heap → Prop} {tm : Tm} {h : Heap} (h1 : p → A tm h) (h2 : ¬ p → B tm h) : condK (.bool (decide p)) A B tm h := ⟨fun h => h1 (of_decide_eq_true h), fun h => h2 (of_decide_eq_false h)⟩
/-- The gate of a guarded operation: nothing behind it is looked at before it is known which way. -/
def gateO (b : Option Bool) (want : Bool) (P : Program) (all : Array Oper) (Q : Exit → Tm → Heap → Prop) (o : Oper) (rest : List Oper) (tm : Tm) (h : Heap) : Prop :=
  match b with
  | some b => (b = want → aops P all Q (o :: rest) tm h) ∧ (b = (!want) → aops P all Q rest (aput tm o.dst undef) h)
  | none => aops P all Q rest (aput tm o.dst undef) h
theorem boolOf_bool {b : Bool} : boolOf (.bool b) = some b := rfl
theorem boolOf_undef : boolOf undef = none := rfl

section
variable {P : Program} {n : Nat} {all : Array Oper} {Q : Exit → Tm → Heap → Prop} {rest : List Oper} {tm : Tm} {h : Heap} {d : Option Tmp} {ty : TypeId} {pos : String} {aft : Array Edge}
theorem W_skip : W P n .skip Q tm h = Q .normal tm h := propext Iff.rfl
theorem W_scope {a : Code} : W P n (.scope a) Q tm h = W P n a Q tm h := propext Iff.rfl
theorem W_label {l : Nat} : W P n (.label l) Q tm h = Q .normal tm h := propext Iff.rfl
theorem W_seq {a b : Code} : W P n (.seq a b) Q tm h = W P n a (thenK (W P n b Q) Q) tm h := propext Iff.rfl
theorem W_region {id : Nat} {ops : Array Oper} : W P n (.region id ops false) Q tm h = aops P ops Q ops.toList tm h := propext Iff.rfl
theorem W_draw {id : Nat} {ops : Array Oper} : W P n (.region id ops true) Q tm h = ADraw P n ops Q tm h := propext Iff.rfl
theorem W_cond {c : Operand} {a b : Code} : W P n (.cond c a b) Q tm h = condK (ev tm c) (W P n a Q) (W P n b Q) tm h := propext Iff.rfl
theorem W_block {id : Nat} {b : Code} : W P n (.block id b) Q tm h = W P n b (blockK id Q) tm h := propext Iff.rfl
theorem W_exit {id : Nat} : W P n (.exit id) Q tm h = Q (.exit id) tm h := propext Iff.rfl
theorem W_ret : W P n .ret Q tm h = Q .ret tm h := propext Iff.rfl
theorem W_loop {b : Code} (I : Tm → Heap → Prop) (μ : Tm → Heap → Nat) (h0 : I tm h) (hr : ∀ tm h, I tm h → W P n b (thenK (fun tm' h' => I tm' h' ∧ μ tm' h' < μ tm h) Q) tm h) : W P n (.loop b) Q tm h := ⟨I, μ, h0, hr⟩
theorem thenK_normal {K : Tm → Heap → Prop} : thenK K Q .normal tm h = K tm h := propext Iff.rfl
theorem thenK_ret {K : Tm → Heap → Prop} : thenK K Q .ret tm h = Q .ret tm h := propext Iff.rfl
theorem thenK_exit {K : Tm → Heap → Prop} {i : Nat} : thenK K Q (.exit i) tm h = Q (.exit i) tm h := propext Iff.rfl
theorem thenK_raised {K : Tm → Heap → Prop} {v : Value} : thenK K Q (raised v) tm h = Q (raised v) tm h := propext Iff.rfl
theorem blockK_normal {i : Nat} : blockK i Q .normal tm h = Q .normal tm h := propext Iff.rfl
theorem blockK_ret {i : Nat} : blockK i Q .ret tm h = Q .ret tm h := propext Iff.rfl
theorem blockK_exit {i j : Nat} : blockK i Q (.exit j) tm h = if j = i then Q .normal tm h else Q (.exit j) tm h := propext Iff.rfl
theorem blockK_raised {i : Nat} {v : Value} : blockK i Q (raised v) tm h = Q (raised v) tm h := propext Iff.rfl
theorem retK_normal {rs Qr Qp} : retK P rs Qr Qp .normal tm h = optV (resOf P h tm rs) (fun v => Qr v h) := propext Iff.rfl
theorem retK_ret {rs Qr Qp} : retK P rs Qr Qp .ret tm h = optV (resOf P h tm rs) (fun v => Qr v h) := propext Iff.rfl
theorem retK_raised {rs Qr Qp} {v : Value} : retK P rs Qr Qp (raised v) tm h = Qp v h := by simp [retK, raised]
theorem optV_eq {v : Value} {K : Value → Prop} : optV (some v) K = K v := propext Iff.rfl
theorem panicK_eq {v : Value} : panicK Q tm v h = Q (raised v) tm h := propext Iff.rfl
def cellV (P : Program) (h : Heap) (t : TypeId) (p : Value) : Option Value := match p with | .pointer (some x) => aload P h t x | _ => none
theorem cellV_ptr {t : TypeId} {a : Addr} : cellV P h t (.pointer (some a)) = aload P h t a := rfl
theorem resV_cell {t a : Nat} : resV P h tm (.cell a t) = cellV P h t (tm a) := rfl
theorem resOf_one {t : Nat} : resOf P h tm #[.tmp t] = some (tm t) := rfl
theorem resOf_cell {t a : Nat} : resOf P h tm #[.cell a t] = cellV P h t (tm a) := rfl
theorem resOf_two {t u : Nat} : resOf P h tm #[.tmp t, .tmp u] = some (.tuple #[tm t, tm u]) := rfl
theorem resOf_three {t u x : Nat} : resOf P h tm #[.tmp t, .tmp u, .tmp x] = some (.tuple #[tm t, tm u, tm x]) := rfl
theorem resOf_four {t u x y : Nat} : resOf P h tm #[.tmp t, .tmp u, .tmp x, .tmp y] = some (.tuple #[tm t, tm u, tm x, tm y]) := rfl
def tupV (a b : Option Value) : Option Value := match a, b with | some x, some y => some (.tuple #[x, y]) | _, _ => none
theorem tupV_some {x y : Value} : tupV (some x) (some y) = some (.tuple #[x, y]) := rfl
theorem resOf_ct {t a u : Nat} : resOf P h tm #[.cell a t, .tmp u] = tupV (cellV P h t (tm a)) (some (tm u)) := by
  show (match resList P h tm [.cell a t, .tmp u] with | some l => some (Value.tuple l.toArray) | none => none) = _
  simp only [resList, resV_cell, show resV P h tm (.tmp u) = some (tm u) from rfl]
  cases cellV P h t (tm a) <;> rfl
theorem resOf_tc {t a u : Nat} : resOf P h tm #[.tmp u, .cell a t] = tupV (some (tm u)) (cellV P h t (tm a)) := by
  show (match resList P h tm [.tmp u, .cell a t] with | some l => some (Value.tuple l.toArray) | none => none) = _
  simp only [resList, resV_cell, show resV P h tm (.tmp u) = some (tm u) from rfl]
  cases cellV P h t (tm a) <;> rfl
theorem resOf_none : resOf P h tm #[] = some (.tuple #[]) := rfl
theorem ev_tmp {t : Nat} : ev tm (.tmp t) = tm t := rfl
theorem ev_const {v : Value} : ev tm (.const v) = v := rfl
theorem ev_func {f : FuncId} : ev tm (.func f) = .func (.func f) #[] #[] := rfl
theorem ev_global {g : Nat} : ev tm (.global g) = .pointer (some ⟨g, 0, none⟩) := rfl
theorem aput_get {t d : Nat} {v : Value} : aput tm (some d) v t = if t = d then v else tm t := rfl
theorem aput_none {v : Value} : aput tm none v = tm := rfl
theorem aops_nil : aops P all Q [] tm h = Q .normal tm h := propext Iff.rfl
theorem gval_eq {j : Nat} {o : Oper} {d : Nat} (ho : all[j]? = some o) (hd : o.dst = some d) : gval all tm j = boolOf (tm d) := by simp [gval, ho, hd]
/-- A guarded operation is one without a guard behind its gate. -/
theorem aops_guard {op : Op} {j : Nat} {want : Bool} : aops P all Q ({ dst := d, op := op, type := ty, pos := pos, after := aft, guard := some (j, want) } :: rest) tm h =
    gateO (gval all tm j) want P all Q { dst := d, op := op, type := ty, pos := pos, after := aft, guard := none } rest tm h := propext Iff.rfl
theorem gateO_tt {o : Oper} : gateO (some true) true P all Q o rest tm h = aops P all Q (o :: rest) tm h := by simp [gateO]
theorem gateO_ff {o : Oper} : gateO (some false) false P all Q o rest tm h = aops P all Q (o :: rest) tm h := by simp [gateO]
theorem gateO_tf {o : Oper} : gateO (some true) false P all Q o rest tm h = aops P all Q rest (aput tm o.dst undef) h := by simp [gateO]
theorem gateO_ft {o : Oper} : gateO (some false) true P all Q o rest tm h = aops P all Q rest (aput tm o.dst undef) h := by simp [gateO]
theorem gateO_none {o : Oper} {w : Bool} : gateO none w P all Q o rest tm h = aops P all Q rest (aput tm o.dst undef) h := propext Iff.rfl
theorem gateO_split {o : Oper} {b w : Bool} (h1 : b = w → aops P all Q (o :: rest) tm h) (h2 : b = (!w) → aops P all Q rest (aput tm o.dst undef) h) : gateO (some b) w P all Q o rest tm h := ⟨h1, h2⟩
theorem aops_move {x : Operand} : aops P all Q ({ dst := d, op := .move x, type := ty, pos := pos, after := aft, guard := none } :: rest) tm h = aops P all Q rest (aput tm d (ev tm x)) h := propext Iff.rfl
theorem aops_assign {x : Operand} : aops P all Q ({ dst := d, op := .assign x, type := ty, pos := pos, after := aft, guard := none } :: rest) tm h = aops P all Q rest (aput tm d (ev tm x)) h := propext Iff.rfl
def pickV (c a b : Value) : Option Value := match c with | .bool t => some (if t = true then a else b) | _ => none
theorem pickV_bool {t : Bool} {a b : Value} : pickV (.bool t) a b = some (if t = true then a else b) := rfl
theorem aops_of {op : Op} {o : Option Value} (ho : aop P tm h op = o) (he : aeff P tm h op = none) (hc : callOf op = none) (hp : panicOf op = none := by rfl) (ha : assertV P tm op = none := by rfl) :
    aops P all Q ({ dst := d, op := op, type := ty, pos := pos, after := aft, guard := none } :: rest) tm h = optK o (nextK P all Q rest tm d h) := by
  subst ho
  simp only [aops, gate, stepK, stepV, hc]
  cases ho : aop P tm h op with
  | none => simp only [he, hp, ha, optK]
  | some v => rfl
theorem aops_eff {op : Op} {o : Option (Value × Heap)} (ho : aeff P tm h op = o) (he : aop P tm h op = none) (hc : callOf op = none) (hp : panicOf op = none := by rfl) (ha : assertV P tm op = none := by rfl) :
    aops P all Q ({ dst := d, op := op, type := ty, pos := pos, after := aft, guard := none } :: rest) tm h = optH o (nextH P all Q rest tm d) := by
  subst ho
  simp only [aops, gate, stepK, stepV, hc, he]
  cases ho : aeff P tm h op with
  | none => simp only [hp, ha, optH]
  | some v => rfl
theorem aops_pick {c x y : Operand} : aops P all Q ({ dst := d, op := .pick c x y, type := ty, pos := pos, after := aft, guard := none } :: rest) tm h = optK (pickV (ev tm c) (ev tm x) (ev tm y)) (nextK P all Q rest tm d h) := aops_of rfl rfl rfl
def loadV (P : Program) (h : Heap) (t : TypeId) (p : Value) : Option Value := match p with | .pointer (some x) => aload P h t x | _ => none
theorem loadV_ptr {t : TypeId} {a : Addr} : loadV P h t (.pointer (some a)) = aload P h t a := rfl
theorem aops_load {t : TypeId} {x : Operand} : aops P all Q ({ dst := d, op := .load t x, type := ty, pos := pos, after := aft, guard := none } :: rest) tm h = optK (loadV P h t (ev tm x)) (nextK P all Q rest tm d h) := aops_of rfl rfl rfl
def nilV (p : Value) : Option Value := match p with | .pointer (some a) => some (.pointer (some a)) | _ => none
theorem nilV_ptr {a : Addr} : nilV (.pointer (some a)) = some (.pointer (some a)) := rfl
theorem aops_nilCheck {x : Operand} : aops P all Q ({ dst := d, op := .nilCheck x, type := ty, pos := pos, after := aft, guard := none } :: rest) tm h = optK (nilV (ev tm x)) (nextK P all Q rest tm d h) := aops_of rfl rfl rfl
theorem aops_binOp {op : BinOp} {t t2 : TypeId} {x y : Operand} : aops P all Q ({ dst := d, op := .binOp op t x y t2, type := ty, pos := pos, after := aft, guard := none } :: rest) tm h = optK (orV (abin P op t (ev tm x) (ev tm y)) (anilC P op t x y (ev tm x) (ev tm y))) (nextK P all Q rest tm d h) := aops_of rfl rfl rfl
theorem aops_unOp {op : UnOp} {t : TypeId} {x : Operand} : aops P all Q ({ dst := d, op := .unOp op t x, type := ty, pos := pos, after := aft, guard := none } :: rest) tm h = optK (aun op (ev tm x)) (nextK P all Q rest tm d h) := aops_of rfl rfl rfl
def convM (c : Option Value) (e : Option (Value × Heap)) (K : Value → Prop) (KH : Value → Heap → Prop) : Prop := match c with | some v => K v | none => optH e KH
theorem convM_some {v : Value} {e : Option (Value × Heap)} {K : Value → Prop} {KH : Value → Heap → Prop} : convM (some v) e K KH = K v := rfl
theorem convM_none {e : Option (Value × Heap)} {K : Value → Prop} {KH : Value → Heap → Prop} : convM none e K KH = optH e KH := rfl
theorem aops_convert {s t : TypeId} {x : Operand} : aops P all Q ({ dst := d, op := .convert s t x, type := ty, pos := pos, after := aft, guard := none } :: rest) tm h = convM (aconv P h s t (ev tm x)) (aconvE P h s t (ev tm x)) (nextK P all Q rest tm d h) (nextH P all Q rest tm d) := by
  simp only [aops, gate, stepK, stepV, callOf]
  have e1 : aop P tm h (.convert s t x) = aconv P h s t (ev tm x) := rfl
  have e2 : aeff P tm h (.convert s t x) = aconvE P h s t (ev tm x) := rfl
  rw [e1, e2]
  cases aconv P h s t (ev tm x) with
  | some v => rfl
  | none =>
    cases aconvE P h s t (ev tm x) with
    | none => rfl
    | some v => rfl
theorem aops_lookup {t : TypeId} {m k : Operand} {ok : Bool} : aops P all Q ({ dst := d, op := .lookup t m k ok, type := ty, pos := pos, after := aft, guard := none } :: rest) tm h = optH (alookupM P h t (ev tm m) (ev tm k) ok) (nextH P all Q rest tm d) := aops_eff rfl rfl rfl
theorem aops_mapUpdate {t : TypeId} {m k x : Operand} : aops P all Q ({ dst := d, op := .mapUpdate t m k x, type := ty, pos := pos, after := aft, guard := none } :: rest) tm h = optH (amapUpdateM P h t (ev tm m) (ev tm k) (ev tm x)) (nextH P all Q rest tm d) := aops_eff rfl rfl rfl
theorem aops_makeMap {t : TypeId} : aops P all Q ({ dst := d, op := .makeMap t none, type := ty, pos := pos, after := aft, guard := none } :: rest) tm h = optH (amakeMapM P h t) (nextH P all Q rest tm d) := aops_eff rfl rfl rfl
theorem aops_clear {x : Operand} {t : TypeId} : aops P all Q ({ dst := d, op := .call { callee := .builtin .clear, args := #[x], argTypes := #[t] }, type := ty, pos := pos, after := aft, guard := none } :: rest) tm h = optH (aclear P h t (ev tm x)) (nextH P all Q rest tm d) := aops_eff rfl rfl rfl
theorem aops_copy {x y : Operand} {t t2 : TypeId} : aops P all Q ({ dst := d, op := .call { callee := .builtin .copy, args := #[x, y], argTypes := #[t, t2] }, type := ty, pos := pos, after := aft, guard := none } :: rest) tm h = optH (acopy P h t (ev tm x) (ev tm y)) (nextH P all Q rest tm d) := aops_eff rfl rfl rfl
theorem aops_delete {x y : Operand} {t t2 : TypeId} : aops P all Q ({ dst := d, op := .call { callee := .builtin .delete, args := #[x, y], argTypes := #[t, t2] }, type := ty, pos := pos, after := aft, guard := none } :: rest) tm h = optH (adeleteM P h t (ev tm x) (ev tm y)) (nextH P all Q rest tm d) := aops_eff rfl rfl rfl
theorem aops_slice {t : TypeId} {x : Operand} {lo hi mx : Option Operand} : aops P all Q ({ dst := d, op := .slice t x lo hi mx, type := ty, pos := pos, after := aft, guard := none } :: rest) tm h = optK (aslice P h t (ev tm x) (lo.map (ev tm)) (hi.map (ev tm)) (mx.map (ev tm))) (nextK P all Q rest tm d h) := aops_of rfl rfl rfl
theorem aops_fieldAddr {t : TypeId} {x : Operand} {f : Nat} : aops P all Q ({ dst := d, op := .fieldAddr t x f, type := ty, pos := pos, after := aft, guard := none } :: rest) tm h = optK (afieldAddr P t (ev tm x) f) (nextK P all Q rest tm d h) := aops_of rfl rfl rfl
theorem aops_field {t : TypeId} {x : Operand} {f : Nat} : aops P all Q ({ dst := d, op := .field t x f, type := ty, pos := pos, after := aft, guard := none } :: rest) tm h = optK (afield P t (ev tm x) f) (nextK P all Q rest tm d h) := aops_of rfl rfl rfl
theorem aops_indexAddr {t : TypeId} {x i : Operand} : aops P all Q ({ dst := d, op := .indexAddr t x i, type := ty, pos := pos, after := aft, guard := none } :: rest) tm h = optK (aindexAddr P t (ev tm x) (ev tm i)) (nextK P all Q rest tm d h) := aops_of rfl rfl rfl
theorem aops_index {t : TypeId} {x i : Operand} : aops P all Q ({ dst := d, op := .index t x i, type := ty, pos := pos, after := aft, guard := none } :: rest) tm h = optK (aindex P t (ev tm x) (ev tm i)) (nextK P all Q rest tm d h) := aops_of rfl rfl rfl
def extV (v : Value) (i : Nat) : Option Value := match v with | .tuple vs => vs[i]? | _ => none
theorem extV_tuple {l : List Value} {i : Nat} : extV (.tuple l.toArray) i = l[i]? := by simp [extV]
theorem aops_extract {x : Operand} {i : Nat} : aops P all Q ({ dst := d, op := .extract x i, type := ty, pos := pos, after := aft, guard := none } :: rest) tm h = optK (extV (ev tm x) i) (nextK P all Q rest tm d h) := aops_of rfl rfl rfl
theorem aops_build {t : TypeId} {ps : Array (Nat × Operand)} : aops P all Q ({ dst := d, op := .build t ps, type := ty, pos := pos, after := aft, guard := none } :: rest) tm h = optK (abuild P t (ps.map fun (i, x) => (i, ev tm x))) (nextK P all Q rest tm d h) := aops_of rfl rfl rfl
theorem aops_makeInterface {t : TypeId} {x : Operand} : aops P all Q ({ dst := d, op := .makeInterface t x, type := ty, pos := pos, after := aft, guard := none } :: rest) tm h = optK (if P.concrete t = true then some (.iface t (ev tm x)) else none) (nextK P all Q rest tm d h) := aops_of rfl rfl rfl
theorem aops_len {x : Operand} {t : TypeId} : aops P all Q ({ dst := d, op := .call { callee := .builtin .len, args := #[x], argTypes := #[t] }, type := ty, pos := pos, after := aft, guard := none } :: rest) tm h = convM (abuiltin P .len #[t] (#[x].map (ev tm))) (alenMap P h t (ev tm x)) (nextK P all Q rest tm d h) (nextH P all Q rest tm d) := by
  simp only [aops, gate, stepK, stepV, callOf]
  have e1 : aop P tm h (.call { callee := .builtin .len, args := #[x], argTypes := #[t] }) = abuiltin P .len #[t] (#[x].map (ev tm)) := rfl
  have e2 : aeff P tm h (.call { callee := .builtin .len, args := #[x], argTypes := #[t] }) = alenMap P h t (ev tm x) := rfl
  rw [e1, e2]
  cases abuiltin P .len #[t] (#[x].map (ev tm)) with
  | some v => rfl
  | none =>
    cases alenMap P h t (ev tm x) with
    | none => rfl
    | some v => rfl
theorem aops_min {args : Array Operand} {ts : Array TypeId} : aops P all Q ({ dst := d, op := .call { callee := .builtin .min, args := args, argTypes := ts }, type := ty, pos := pos, after := aft, guard := none } :: rest) tm h = optK (abuiltin P .min ts (args.map (ev tm))) (nextK P all Q rest tm d h) := aops_of rfl rfl rfl
theorem aops_max {args : Array Operand} {ts : Array TypeId} : aops P all Q ({ dst := d, op := .call { callee := .builtin .max, args := args, argTypes := ts }, type := ty, pos := pos, after := aft, guard := none } :: rest) tm h = optK (abuiltin P .max ts (args.map (ev tm))) (nextK P all Q rest tm d h) := aops_of rfl rfl rfl
theorem aops_alloc {e : TypeId} : aops P all Q ({ dst := d, op := .alloc e, type := ty, pos := pos, after := aft, guard := none } :: rest) tm h = optH (aeff P tm h (.alloc e)) (nextH P all Q rest tm d) := aops_eff rfl rfl rfl
theorem aops_box {e : TypeId} {x : Operand} : aops P all Q ({ dst := d, op := .box e x, type := ty, pos := pos, after := aft, guard := none } :: rest) tm h = optH (aeff P tm h (.box e x)) (nextH P all Q rest tm d) := aops_eff rfl rfl rfl
theorem aops_buildSlice {t : TypeId} {l : Nat} {ps : Array (Nat × Operand)} : aops P all Q ({ dst := d, op := .buildSlice t l ps, type := ty, pos := pos, after := aft, guard := none } :: rest) tm h = optH (abuildSlice P h t l (ps.map fun (i, x) => (i, ev tm x))) (nextH P all Q rest tm d) := aops_eff rfl rfl rfl
theorem aops_makeSlice {t : TypeId} {l c : Operand} : aops P all Q ({ dst := d, op := .makeSlice t l c, type := ty, pos := pos, after := aft, guard := none } :: rest) tm h = optH (amakeSlice P h t (ev tm l) (ev tm c)) (nextH P all Q rest tm d) := aops_eff rfl rfl rfl
def storeV (P : Program) (h : Heap) (t : TypeId) (p v : Value) : Option (Value × Heap) := match astore P h t p v with | some h' => some (undef, h') | none => none
theorem aops_store {t : TypeId} {p x : Operand} : aops P all Q ({ dst := d, op := .store t p x, type := ty, pos := pos, after := aft, guard := none } :: rest) tm h = optH (storeV P h t (ev tm p) (ev tm x)) (nextH P all Q rest tm d) := aops_eff rfl rfl rfl
theorem aops_append {s x : Operand} {t t2 : TypeId} : aops P all Q ({ dst := d, op := .call { callee := .builtin .append, args := #[s, x], argTypes := #[t, t2] }, type := ty, pos := pos, after := aft, guard := none } :: rest) tm h = optH (aappend P h t t2 (ev tm s) (ev tm x)) (nextH P all Q rest tm d) := aops_eff rfl rfl rfl
theorem aops_call {g : FuncId} {args : Array Operand} {ts : Array TypeId} (hb : hasBody P g = true) : aops P all Q ({ dst := d, op := .call { callee := .value (.func g), args := args, argTypes := ts }, type := ty, pos := pos, after := aft, guard := none } :: rest) tm h =
    ACallsX P g (args.map (ev tm)) h (nextH P all Q rest tm d) (panicK Q tm) := by
  simp only [aops, gate, stepK, stepV, callOf, ev, hb, true_and, Array.empty_append, Array.append_empty]
  rfl
theorem aops_makeFunc {g : FuncId} {fi ca : Array Operand} : aops P all Q ({ dst := d, op := .makeFunc (.func g) fi ca, type := ty, pos := pos, after := aft, guard := none } :: rest) tm h = optK (some (.func (.func g) (fi.map (ev tm)) (ca.map (ev tm)))) (nextK P all Q rest tm d h) := aops_of rfl rfl rfl
def callV (P : Program) (v : Value) (args : Array Value) (h : Heap) (R X : Value → Heap → Prop) : Prop :=
  match v with
  | .func (.func g) first cap => hasBody P g = true ∧ ACallsX P g (first ++ args ++ cap) h R X
  | .func (.yield b) first cap => first = #[] ∧ cap = #[] ∧ AYield P b args h R
  | _ => False
theorem callV_yield {b : Nat} {args : Array Value} {R X : Value → Heap → Prop} : callV P (.func (.yield b) #[] #[]) args h R X = AYield P b args h R := by simp [callV]
theorem callV_func {g : FuncId} {first args cap : Array Value} {R X : Value → Heap → Prop} : callV P (.func (.func g) first cap) args h R X = (hasBody P g = true ∧ ACallsX P g (first ++ args ++ cap) h R X) := rfl
theorem aops_callv {t : Nat} {args : Array Operand} {ts : Array TypeId} : aops P all Q ({ dst := d, op := .call { callee := .value (.tmp t), args := args, argTypes := ts }, type := ty, pos := pos, after := aft, guard := none } :: rest) tm h =
    callV P (tm t) (args.map (ev tm)) h (nextH P all Q rest tm d) (panicK Q tm) := by
  simp only [aops, gate, stepK, stepV, callOf, ev]
  rfl
theorem aops_panic {x : Operand} : aops P all Q ({ dst := d, op := .panic x, type := ty, pos := pos, after := aft, guard := none } :: rest) tm h = raiseV (ev tm x) h (panicK Q tm) := by
  simp only [aops, gate, stepK, stepV, callOf, panicOf, aop, aeff]
  rfl
theorem aops_assert {x : Operand} {xt a : TypeId} : aops P all Q ({ dst := d, op := .typeAssert x xt a true, type := ty, pos := pos, after := aft, guard := none } :: rest) tm h = optK (assertV P tm (.typeAssert x xt a true)) (nextK P all Q rest tm d h) := by
  simp only [aops, gate, stepK, stepV, callOf, panicOf, aop, aeff]
  cases assertV P tm (.typeAssert x xt a true) <;> rfl
theorem raiseV_iface {t : TypeId} {v : Value} {X : Value → Heap → Prop} : raiseV (.iface t v) h X = X (.iface t v) h := propext Iff.rfl
theorem atm_get {l : List Value} {t : Nat} : atm l.toArray t = l.getD t undef := by simp [atm]
end
end Go.Proofs.Ytgfccaaalkkdlaa.Am
