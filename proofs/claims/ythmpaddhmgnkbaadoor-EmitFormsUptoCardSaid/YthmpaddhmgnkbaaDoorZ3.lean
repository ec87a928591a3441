/- The texts of this seat, one behind another (part 3 of 25): the frame (an abstract machine), the contracts of functions, the laws. -/
import Derived.Test.YthmpaddhmgnkbaaDoorZ2
import Derived.Laws.StructEq
import Derived.Laws.Pointers
section
/- The frame Am, fourth text: indexing, fields, arithmetic, comparison, conversion; all operations that change no memory as one function, and that a world's run agrees with it. Nothing of a program stands here. -/
set_option linter.unusedVariables false
set_option linter.unusedSimpArgs false
namespace Go.Proofs.YthmpaddhmgnkbaaDoor.Am
open Go Go.RowKit

def apart (P : Program) (t : TypeId) (cs : Array Value) (off : Nat) : Option Value :=
  match P.underlying t with
  | none => none
  | some d => if isAggD d = true then (match asz P t with | none => none | some s => some (.agg (cs.extract off (off + s)))) else cs[off]?
def afield (P : Program) (t : TypeId) (x : Value) (f : Nat) : Option Value :=
  match P.underlying t, x with
  | some (.struct fs), .agg cs => (match fs[f]? with | none => none | some fl => apart P fl.type cs fl.offset)
  | _, _ => none
def afieldAddr (P : Program) (t : TypeId) (x : Value) (f : Nat) : Option Value :=
  match P.underlying t, x with
  | some (.struct fs), .pointer (some a) =>
    (match fs[f]? with
      | none => none
      | some fl => match asz P fl.type with
        | none => none
        | some s => if s = 0 then none else some (.pointer (some ⟨a.block, a.off + fl.offset, none⟩)))
  | _, _ => none
def aindexAddr (P : Program) (t : TypeId) (x ix : Value) : Option Value :=
  match P.underlying t, x, ix with
  | some (.slice e), .slice (some a) n _, .int _ i =>
    (match asz P e with
      | none => none
      | some s => if 0 ≤ i ∧ i < (n : Int) then some (.pointer (some ⟨a.block, a.off + i.toNat * s, none⟩)) else none)
  | some (.array n e), .pointer (some a), .int _ i =>
    (match asz P e with
      | none => none
      | some s => if 0 ≤ i ∧ i < (n : Int) then some (.pointer (some ⟨a.block, a.off + i.toNat * s, none⟩)) else none)
  | _, _, _ => none
def aindex (P : Program) (t : TypeId) (x ix : Value) : Option Value :=
  match P.underlying t, x, ix with
  | some (.array n e), .agg cs, .int _ i =>
    (match asz P e with
      | none => none
      | some s => if 0 ≤ i ∧ i < (n : Int) then apart P e cs (i.toNat * s) else none)
  | some .string, .string s, .int _ i =>
    if 0 ≤ i then (match s[i.toNat]? with | none => none | some b => some (.int .u8 b.toNat)) else none
  | _, _, _ => none

section
variable {P : Program} {w0 w : World} {ρ : Ren} {h : Heap}
theorem part_rel {t : TypeId} {cs cs' : Array Value} (hc : AR ρ cs cs') {off : Nat} {v : Value} (hv : apart P t cs off = some v) : ∃ v', (part t cs' off).run P w = .ok v' w ∧ VR ρ v v' := by
  unfold apart at hv
  split at hv
  · cases hv
  rename_i d hd
  split at hv
  · rename_i ha
    split at hv
    · cases hv
    rename_i s hs
    cases hv
    exact ⟨_, by simp only [part, Sem.run_bind, run_isAgg hd, ha, Result.andThen_ok, if_true, run_sizeOf hs, Sem.run_pure], VR.agg (hc.extract _ _)⟩
  · rename_i ha
    obtain ⟨y, hy, hr⟩ := hc.get hv
    exact ⟨y, by simp only [part, Sem.run_bind, run_isAgg hd, Result.andThen_ok, if_neg ha, hy, Sem.run_pure], hr⟩
theorem field_rel {t : TypeId} {x x' : Value} (hx : VR ρ x x') {f : Nat} {v : Value} (hv : afield P t x f = some v) : ∃ v', (Instr.field t x' f).run P w = .ok v' w ∧ VR ρ v v' := by
  unfold afield at hv
  split at hv
  · rename_i fs cs hd
    split at hv
    · cases hv
    rename_i fl hf
    obtain ⟨ys, rfl, hr⟩ := hx.agg_inv
    obtain ⟨v', h1, h2⟩ := part_rel (w := w) hr hv
    exact ⟨v', by simp [Instr.field, run_underlying hd, hf, asAgg, h1], h2⟩
  · cases hv
theorem fieldAddr_rel {t : TypeId} {x x' : Value} (hx : VR ρ x x') {f : Nat} {v : Value} (hv : afieldAddr P t x f = some v) : ∃ v', (Instr.fieldAt t x' f).run P w = .ok v' w ∧ VR ρ v v' := by
  unfold afieldAddr at hv
  split at hv
  · rename_i fs a hd
    split at hv
    · cases hv
    rename_i fl hf
    split at hv
    · cases hv
    rename_i s hs
    split at hv
    · cases hv
    rename_i h0
    cases hv
    obtain ⟨a', rfl, hsp, L, hL, rfl⟩ := hx.ptr_inv
    refine ⟨_, by simp [Instr.fieldAt, run_underlying hd, hf, Instr.sureAddr, fieldPlace, run_sizeOf hs, h0, add_plain']; rfl, VR.ptr ⟨rfl, L, hL, by simp only [Addr.mk.injEq, and_true, true_and]; omega⟩⟩
  · cases hv
theorem indexAddr_rel {t : TypeId} {x x' ix ix' : Value} (hx : VR ρ x x') (hi : VR ρ ix ix') {v : Value} (hv : aindexAddr P t x ix = some v) :
    ∃ v', (Instr.indexAt t x' ix').run P w = .ok v' w ∧ VR ρ v v' := by
  unfold aindexAddr at hv
  split at hv
  · rename_i e a n c k i hd
    split at hv
    · cases hv
    rename_i s hs
    split at hv
    · rename_i hb
      cases hv
      rw [hi.int_inv]
      obtain ⟨a', c', rfl, hn, hnc, _, hS⟩ := hx.slice_inv
      cases a' with
      | none => exact hS.elim
      | some x' =>
        rcases hS with ⟨hsp, L, hL, rfl, _⟩ | h0
        · refine ⟨_, by simp [Instr.indexAt, asIntOf, run_underlying hd, hb, run_sizeOf hs, add_plain']; rfl, VR.ptr ⟨rfl, L, hL, by simp only [Addr.mk.injEq, and_true, true_and]; omega⟩⟩
        · omega
    · cases hv
  · rename_i m e a k i hd
    split at hv
    · cases hv
    rename_i s hs
    split at hv
    · rename_i hb
      cases hv
      rw [hi.int_inv]
      obtain ⟨a', rfl, hsp, L, hL, rfl⟩ := hx.ptr_inv
      refine ⟨_, by simp [Instr.indexAt, asIntOf, run_underlying hd, Instr.sureAddr, hb, run_sizeOf hs, add_plain']; rfl, VR.ptr ⟨rfl, L, hL, by simp only [Addr.mk.injEq, and_true, true_and]; omega⟩⟩
    · cases hv
  · cases hv
theorem index_rel {t : TypeId} {x x' ix ix' : Value} (hx : VR ρ x x') (hi : VR ρ ix ix') {v : Value} (hv : aindex P t x ix = some v) :
    ∃ v', (Instr.index t x' ix').run P w = .ok v' w ∧ VR ρ v v' := by
  unfold aindex at hv
  split at hv
  · rename_i n e cs k i hd
    split at hv
    · cases hv
    rename_i s hs
    split at hv
    · rename_i hb
      rw [hi.int_inv]
      obtain ⟨ys, rfl, hr⟩ := hx.agg_inv
      obtain ⟨v', h1, h2⟩ := part_rel (w := w) hr hv
      exact ⟨v', by simp [Instr.index, asIntOf, run_underlying hd, hb, run_sizeOf hs, h1], h2⟩
    · cases hv
  · rename_i s k i hd
    split at hv
    · rename_i hb
      split at hv
      · cases hv
      rename_i b hs
      cases hv
      rw [hi.int_inv, hx.string_inv]
      exact ⟨_, by simp [Instr.index, asIntOf, run_underlying hd, hb, hs], VR.int _ _⟩
    · cases hv
  · cases hv
end

/-! ### Arithmetic and comparison -/
def aint (op : BinOp) (k : IntKind) (x y : Int) : Option Value :=
  match op with
  | .add => some (.int k (k.wrap (x + y)))
  | .sub => some (.int k (k.wrap (x - y)))
  | .mul => some (.int k (k.wrap (x * y)))
  | .quo => if y = 0 then none else some (.int k (k.wrap (x.tdiv y)))
  | .rem => if y = 0 then none else some (.int k (x.tmod y))
  | .and => some (.int k (bits .and k x y))
  | .or => some (.int k (bits .or k x y))
  | .xor => some (.int k (bits .xor k x y))
  | .andNot => some (.int k (bits .andNot k x y))
  | .eql => some (.bool (x == y))
  | .neq => some (.bool (x != y))
  | .lss => some (.bool (decide (x < y)))
  | .leq => some (.bool (decide (x ≤ y)))
  | .gtr => some (.bool (decide (x > y)))
  | .geq => some (.bool (decide (x ≥ y)))
  | _ => none
def ashift (op : BinOp) (k : IntKind) (x y : Int) : Option Value :=
  if y < 0 then none else
  match op with
  | .shl => some (.int k (k.wrap (x * 2 ^ (min y.toNat k.bits))))
  | .shr => some (.int k (x.fdiv (2 ^ (min y.toNat k.bits))))
  | _ => none
def astr (op : BinOp) (x y : ByteArray) : Option Value :=
  match op with
  | .add => if x.size + y.size ≤ 9223372036854775807 then some (.string (x ++ y)) else none
  | .eql => some (.bool (x.toList == y.toList))
  | .neq => some (.bool (!(x.toList == y.toList)))
  | .lss => some (.bool (Op.bytesLess x.toList y.toList))
  | .leq => some (.bool (Op.bytesLess x.toList y.toList || x.toList == y.toList))
  | .gtr => some (.bool (!(Op.bytesLess x.toList y.toList || x.toList == y.toList)))
  | .geq => some (.bool (!(Op.bytesLess x.toList y.toList)))
  | _ => none
/-- Two scalars of one type. -/
def aeq1 (P : Program) (t : TypeId) (x y : Value) : Option Bool :=
  match P.underlying t, x, y with
  | some .bool, .bool a, .bool b => some (a == b)
  | some (.int _), .int k a, .int k' b => if k = k' then some (a == b) else none
  | some .string, .string a, .string b => some (a.toList == b.toList)
  | _, _, _ => none
def aeqF (P : Program) (xs ys : Array Value) : List Field → Option Bool
  | [] => some true
  | f :: fs =>
    if f.name = "_" then none else
    match apart P f.type xs f.offset, apart P f.type ys f.offset with
    | some a, some b => (match aeq1 P f.type a b, aeqF P xs ys fs with | some r, some s => some (r && s) | _, _ => none)
    | _, _ => none
def aeq (P : Program) (t : TypeId) (x y : Value) : Option Bool :=
  match P.underlying t, x, y with
  | some .bool, .bool a, .bool b => some (a == b)
  | some (.pointer _), .pointer none, .pointer b => some b.isNone
  | some (.pointer _), .pointer (some _), .pointer none => some false
  | some (.slice _), .slice none _ _, .slice b _ _ => some b.isNone
  | some (.slice _), .slice (some _) _ _, .slice none _ _ => some false
  | some (.interface _), .nilIface, .iface _ _ => some false
  | some (.interface _), .iface _ _, .nilIface => some false
  | some (.interface ms), .nilIface, .nilIface => if ms.isEmpty = true then some true else none
  | some (.func _ _ _), .nilFunc, .nilFunc => some true
  | some (.func _ _ _), .nilFunc, .func _ _ _ => some false
  | some (.func _ _ _), .func _ _ _, .nilFunc => some false
  | some (.struct fs), .agg xs, .agg ys => if P.stoodInHeld t = false ∧ P.eqGuardType P.depth t = false then aeqF P xs ys fs.toList else none
  | _, _, _ => none
def abin (P : Program) (op : BinOp) (t : TypeId) (x y : Value) : Option Value :=
  match op, x, y with
  | .shl, .int k a, .int _ b => ashift .shl k a b
  | .shr, .int k a, .int _ b => ashift .shr k a b
  | op, .int k a, .int k' b => if k = k' then aint op k a b else none
  | op, .string a, .string b => astr op a b
  | .eql, x, y => (aeq P t x y).map Value.bool
  | .neq, x, y => (aeq P t x y).map fun b => Value.bool (!b)
  | _, _, _ => none
def aun (op : UnOp) (x : Value) : Option Value :=
  match op, x with
  | .not, .bool b => some (.bool !b)
  | .neg, .int k n => some (.int k (k.wrap (0 - n)))
  | .xor, .int k n => some (.int k (bits .xor k (if k.signed then -1 else k.max) n))
  | _, _ => none

section
variable {P : Program} {w0 w : World} {ρ : Ren} {h : Heap}
theorem eq1_rel {t : TypeId} {x y x' y' : Value} (hx : VR ρ x x') (hy : VR ρ y y') {r : Bool} (hr : aeq1 P t x y = some r) (d : Nat) : (Op.equalIn (d + 1) t x' y').run P w = .ok r w := by
  unfold aeq1 at hr
  split at hr
  · rename_i a b hd
    cases hr
    rw [hx.bool_inv, hy.bool_inv]; exact run_equalIn_bool w d t a b hd
  · rename_i k q a q' b hd
    split at hr
    · rename_i hk; subst hk
      cases hr
      rw [hx.int_inv, hy.int_inv]; exact run_equalIn_int w d t _ _ a b hd
    · cases hr
  · rename_i a b hd
    cases hr
    rw [hx.string_inv, hy.string_inv]; exact run_equalIn_string w d t a b hd
  · cases hr
theorem eqF_rel {xs ys xs' ys' : Array Value} (hx : AR ρ xs xs') (hy : AR ρ ys ys') (d : Nat) : ∀ (fs : List Field) (r : Bool), aeqF P xs ys fs = some r → (Op.eqFields (d + 1) xs' ys' fs).run P w = .ok r w := by
  intro fs
  induction fs with
  | nil => intro r hr; cases hr; simp [Op.eqFields]
  | cons f fs ih =>
    intro r hr
    unfold aeqF at hr
    split at hr
    · cases hr
    rename_i hn
    split at hr
    · rename_i a b ha hb
      split at hr
      · rename_i r1 s1 h1 h2
        cases hr
        obtain ⟨a', p1, p2⟩ := part_rel (w := w) hx ha
        obtain ⟨b', q1, q2⟩ := part_rel (w := w) hy hb
        have e1 := eq1_rel (w := w) p2 q2 h1 d
        have e2 := ih _ h2
        simp only [Op.eqFields, ne_eq, hn, not_false_eq_true, if_true, Sem.run_bind, p1, q1, e1, Result.andThen_ok]
        cases r1 <;> simp [e2]
      · cases hr
    · cases hr
theorem eqGuard_left {op : BinOp} {t : TypeId} {X Y : Operand} {x y : Value} (h1 : x ≠ .nilIface) (h2 : ∀ cs, x ≠ .agg cs) : (eqGuard op t X Y x y).run P w = .ok () w := by
  unfold eqGuard
  cases x <;> cases op <;> first | rfl | exact absurd rfl h1 | exact absurd rfl (h2 _)
theorem eqGuard_right {op : BinOp} {t : TypeId} {X Y : Operand} {x y : Value} (h1 : y ≠ .nilIface) (h2 : ∀ cs, y ≠ .agg cs) : (eqGuard op t X Y x y).run P w = .ok () w := by
  unfold eqGuard
  cases y <;> cases op <;> first | rfl | exact absurd rfl h1 | exact absurd rfl (h2 _) | (cases x <;> rfl)
set_option maxHeartbeats 4000000 in
theorem eqIn_rel (d : Nat) {t : TypeId} {x y x' y' : Value} (hx : VR ρ x x') (hy : VR ρ y y') {r : Bool} (hr : aeq P t x y = some r) (X Y : Operand)
    (hguard : ∀ ms, P.underlying t = some (.interface ms) → ms.isEmpty = true → (Op.eqGuardIn Op.maxDepth t .nilIface .nilIface).run P w = .ok false w) :
    (∀ op, (eqGuard op t X Y x' y').run P w = .ok () w) ∧ (Op.equalIn (d + 2) t x' y').run P w = .ok r w := by
  unfold aeq at hr
  split at hr
  · rename_i a b hd
    cases hr
    rw [hx.bool_inv, hy.bool_inv]
    exact ⟨fun op => eqGuard_left (by simp) (by simp), run_equalIn_bool w _ t a b hd⟩
  · rename_i e b hd
    cases hr
    rw [hx.nilptr_inv]
    rcases hy.pointer_inv with ⟨rfl, rfl⟩ | ⟨z, z', rfl, rfl, _⟩
    · exact ⟨fun op => (by first | (apply eqGuard_left <;> simp <;> done) | (apply eqGuard_right <;> simp <;> done)), by simp [Op.equalIn, run_underlying hd]⟩
    · exact ⟨fun op => (by first | (apply eqGuard_left <;> simp <;> done) | (apply eqGuard_right <;> simp <;> done)), by simp [Op.equalIn, run_underlying hd]⟩
  · rename_i e a hd
    cases hr
    obtain ⟨z', rfl, _⟩ := hx.ptr_inv
    rw [hy.nilptr_inv]
    exact ⟨fun op => (by first | (apply eqGuard_left <;> simp <;> done) | (apply eqGuard_right <;> simp <;> done)), by simp [Op.equalIn, run_underlying hd]⟩
  · rename_i e n c b n2 c2 hd
    cases hr
    obtain ⟨a', c', rfl, hS⟩ := hx.slice_inv
    obtain ⟨b', d', rfl, hT⟩ := hy.slice_inv
    have ha : a' = none := by cases a' with | none => rfl | some _ => exact hS.2.2.2.elim
    have hb : b'.isNone = b.isNone := by cases b <;> cases b' <;> first | rfl | exact hT.2.2.2.elim
    subst ha
    exact ⟨fun op => (by first | (apply eqGuard_left <;> simp <;> done) | (apply eqGuard_right <;> simp <;> done)), by simp [Op.equalIn, run_underlying hd, hb]⟩
  · rename_i e a n c n2 c2 hd
    cases hr
    obtain ⟨a', c', rfl, hS⟩ := hx.slice_inv
    obtain ⟨b', d', rfl, hT⟩ := hy.slice_inv
    have hb : b' = none := by cases b' with | none => rfl | some _ => exact hT.2.2.2.elim
    obtain ⟨z, rfl⟩ : ∃ z, a' = some z := by cases a' with | none => exact hS.2.2.2.elim | some z => exact ⟨z, rfl⟩
    subst hb
    exact ⟨fun op => (by first | (apply eqGuard_left <;> simp <;> done) | (apply eqGuard_right <;> simp <;> done)), by simp [Op.equalIn, run_underlying hd]⟩
  · rename_i ms t' v hd
    cases hr
    obtain ⟨u, rfl, _⟩ := hy.iface_inv
    rw [hx.nilIface_inv]
    exact ⟨fun op => (by first | (apply eqGuard_left <;> simp <;> done) | (apply eqGuard_right <;> simp <;> done)), by simp [Op.equalIn, run_underlying hd]⟩
  · rename_i ms t' v hd
    cases hr
    obtain ⟨u, rfl, _⟩ := hx.iface_inv
    rw [hy.nilIface_inv]
    exact ⟨fun op => (by first | (apply eqGuard_left <;> simp <;> done) | (apply eqGuard_right <;> simp <;> done)), by simp [Op.equalIn, run_underlying hd]⟩
  · rename_i ms hd
    split at hr
    · rename_i hms
      cases hr
      rw [hx.nilIface_inv, hy.nilIface_inv]
      have hg := hguard ms hd hms
      refine ⟨fun op => ?_, by simp [Op.equalIn, run_underlying hd]⟩
      cases op <;> simp [eqGuard, hg] <;> (split <;> simp)
    · cases hr
  · rename_i hd
    cases hr
    rw [hx.nilFunc_inv, hy.nilFunc_inv]
    exact ⟨fun op => (by first | (apply eqGuard_left <;> simp <;> done) | (apply eqGuard_right <;> simp <;> done)), by simp [Op.equalIn, run_underlying hd]⟩
  · rename_i hd
    cases hr
    obtain ⟨_, _, _, rfl, _⟩ := hy.func_inv
    rw [hx.nilFunc_inv]
    exact ⟨fun op => (by first | (apply eqGuard_left <;> simp <;> done) | (apply eqGuard_right <;> simp <;> done)), by simp [Op.equalIn, run_underlying hd]⟩
  · rename_i hd
    cases hr
    obtain ⟨_, _, _, rfl, _⟩ := hx.func_inv
    rw [hy.nilFunc_inv]
    exact ⟨fun op => (by first | (apply eqGuard_left <;> simp <;> done) | (apply eqGuard_right <;> simp <;> done)), by simp [Op.equalIn, run_underlying hd]⟩
  · rename_i fs xs ys hd
    split at hr
    · rename_i hst
      obtain ⟨xs', rfl, hX⟩ := hx.agg_inv
      obtain ⟨ys', rfl, hY⟩ := hy.agg_inv
      have hf : P.fieldsOf t = fs := by simp [Program.fieldsOf, hd]
      refine ⟨fun op => run_eqGuard_agg w op t X Y _ _ hst.2, ?_⟩
      rw [run_equalIn_struct w (d + 1) t xs' ys' (by rw [hf]; exact hd) hst.1, hf]
      exact eqF_rel (w := w) hX hY d fs.toList r hr
    · cases hr
  · cases hr
theorem eqGuardIn_nil (d : Nat) {t : TypeId} {ms : Array (String × TypeId)} (hd : P.underlying t = some (.interface ms)) (hms : ms.isEmpty = true) : (Op.eqGuardIn (d + 1) t .nilIface .nilIface).run P w = .ok false w := by
  simp only [Op.eqGuardIn, Sem.run_bind, run_underlying hd, Result.andThen_ok, hms, Bool.not_true, Sem.run_pure]
theorem eq_rel {t : TypeId} {x y x' y' : Value} (hx : VR ρ x x') (hy : VR ρ y y') {r : Bool} (hr : aeq P t x y = some r) (X Y : Operand) :
    (∀ op, (eqGuard op t X Y x' y').run P w = .ok () w) ∧ (Op.equal t x' y').run P w = .ok r w :=
  eqIn_rel 9998 hx hy hr X Y (fun ms hd hms => eqGuardIn_nil 9999 hd hms)
theorem eqGuard_int (op : BinOp) (t : TypeId) (X Y : Operand) (k k' : IntKind) (x y : Int) : (eqGuard op t X Y (.int k x) (.int k' y)).run P w = .ok () w := by
  cases op <;> simp [eqGuard]
theorem eqGuard_str (op : BinOp) (t : TypeId) (X Y : Operand) (x y : ByteArray) : (eqGuard op t X Y (.string x) (.string y)).run P w = .ok () w := by
  cases op <;> simp [eqGuard]
theorem int_rel {op : BinOp} (h1 : op ≠ .shl) (h2 : op ≠ .shr) {t : TypeId} {k : IntKind} {x y : Int} {v : Value} (hv : aint op k x y = some v) : (binOp op t (.int k x) (.int k y)).run P w = .ok v w ∧ VR ρ v v := by
  cases op <;> simp only [aint] at hv <;> first
    | exact absurd rfl h1
    | exact absurd rfl h2
    | (cases hv; refine ⟨?_, VR.int _ _⟩; simp [binOp, Op.intArith]; done)
    | (cases hv; refine ⟨?_, VR.int _ _⟩; simp [binOp, intBits_and, intBits_or, intBits_xor, intBits_andNot]; done)
    | (cases hv; refine ⟨?_, VR.bool _⟩; simp [binOp, Op.intCmp]; done)
    | (split at hv
       · cases hv
       · rename_i h0; cases hv; refine ⟨?_, VR.int _ _⟩; simp [binOp, Op.intDiv, h0])
theorem shift_rel {op : BinOp} {t : TypeId} {k q : IntKind} {x y : Int} {v : Value} (ho : op = .shl ∨ op = .shr) (hv : ashift op k x y = some v) : (binOp op t (.int k x) (.int q y)).run P w = .ok v w ∧ VR ρ v v := by
  unfold ashift at hv
  split at hv
  · cases hv
  rename_i h0
  rcases ho with rfl | rfl <;> simp only at hv <;> cases hv <;> exact ⟨by simp [binOp, Op.shift, h0], VR.int _ _⟩
theorem str_rel {op : BinOp} {t : TypeId} {x y : ByteArray} {v : Value} (hv : astr op x y = some v) : (binOp op t (.string x) (.string y)).run P w = .ok v w ∧ VR ρ v v := by
  cases op <;> simp only [astr] at hv <;> first
    | (cases hv; done)
    | (cases hv; refine ⟨?_, VR.bool _⟩; simp [binOp, Op.stringOp]; done)
    | (split at hv
       · rename_i h0
         cases hv
         have h1 : ¬ (((x.size + y.size : Nat) : Int) > IntKind.i64.max) := by simp [IntKind.max, IntKind.signed, IntKind.bits]; omega
         refine ⟨?_, VR.string _⟩
         simp only [binOp, Op.stringOp, if_neg h1, Sem.run_pure]
       · cases hv)
def vkind : Value → Nat
  | .bool _ => 0
  | .int _ _ => 1
  | .float _ _ => 2
  | .complex _ _ _ => 3
  | .string _ => 4
  | .pointer _ => 5
  | .slice _ _ _ => 6
  | .map _ => 7
  | .chan _ => 8
  | .func _ _ _ => 9
  | .nilFunc => 10
  | .iface _ _ => 11
  | .nilIface => 12
  | .agg _ => 13
  | .tuple _ => 14
theorem vkind_eq {v v' : Value} (h : VR ρ v v') : vkind v = vkind v' := by
  obtain ⟨n, h⟩ := h
  cases n with
  | zero => exact h.elim
  | succ n => cases v <;> cases v' <;> first | rfl | (simp [VRn] at h; done)
/-- Values of types that '==' asks about one by one. -/
theorem aeq_kinds {t : TypeId} {x y : Value} {r : Bool} (hr : aeq P t x y = some r) : (∀ k a, x ≠ .int k a) ∧ (∀ s, x ≠ .string s) ∧ (∀ k b, x ≠ .float k b) ∧ ∀ k a b, x ≠ .complex k a b := by
  unfold aeq at hr
  split at hr <;> first | (cases hr; done) | (refine ⟨?_, ?_, ?_, ?_⟩ <;> intros <;> simp)
theorem binOp_eq_of {t : TypeId} {x y x' y' : Value} {r : Bool} (hr : aeq P t x y = some r) (hx : VR ρ x x') (hy : VR ρ y y') : binOp .eql t x' y' = (do pure (.bool (← Op.equal t x' y')) : Sem Value) := by
  obtain ⟨h1, h2, h3, h4⟩ := aeq_kinds hr
  have hk := vkind_eq hx
  cases x <;> cases x' <;> first | (simp [vkind] at hk; done) | exact absurd rfl (h1 _ _) | exact absurd rfl (h2 _) | exact absurd rfl (h3 _ _) | exact absurd rfl (h4 _ _ _) | rfl
theorem binOp_ne_of {t : TypeId} {x y x' y' : Value} {r : Bool} (hr : aeq P t x y = some r) (hx : VR ρ x x') (hy : VR ρ y y') : binOp .neq t x' y' = (do pure (.bool (!(← Op.equal t x' y'))) : Sem Value) := by
  obtain ⟨h1, h2, h3, h4⟩ := aeq_kinds hr
  have hk := vkind_eq hx
  cases x <;> cases x' <;> first | (simp [vkind] at hk; done) | exact absurd rfl (h1 _ _) | exact absurd rfl (h2 _) | exact absurd rfl (h3 _ _) | exact absurd rfl (h4 _ _ _) | rfl
theorem bin_rel {op : BinOp} {t : TypeId} {x y x' y' : Value} (hx : VR ρ x x') (hy : VR ρ y y') {v : Value} (hv : abin P op t x y = some v) (X Y : Operand) :
    ∃ v', (do eqGuard op t X Y x' y'; binOp op t x' y' : Sem Value).run P w = .ok v' w ∧ VR ρ v v' := by
  unfold abin at hv
  split at hv
  · rw [hx.int_inv, hy.int_inv]
    obtain ⟨h1, h2⟩ := shift_rel (P := P) (w := w) (t := t) (q := by assumption) (ρ := ρ) (.inl rfl) hv
    exact ⟨v, by simp only [Sem.run_bind, eqGuard_int, Result.andThen_ok]; exact h1, h2⟩
  · rw [hx.int_inv, hy.int_inv]
    obtain ⟨h1, h2⟩ := shift_rel (P := P) (w := w) (t := t) (q := by assumption) (ρ := ρ) (.inr rfl) hv
    exact ⟨v, by simp only [Sem.run_bind, eqGuard_int, Result.andThen_ok]; exact h1, h2⟩
  · rename_i n1 n2
    split at hv
    · rename_i hk
      subst hk
      rw [hx.int_inv, hy.int_inv]
      have g1 : op ≠ .shl := fun e => by subst e; exact n1 rfl
      have g2 : op ≠ .shr := fun e => by subst e; exact n2 rfl
      obtain ⟨h1, h2⟩ := int_rel (P := P) (w := w) (t := t) (ρ := ρ) g1 g2 hv
      exact ⟨v, by simp only [Sem.run_bind, eqGuard_int, Result.andThen_ok]; exact h1, h2⟩
    · cases hv
  · rw [hx.string_inv, hy.string_inv]
    obtain ⟨h1, h2⟩ := str_rel (P := P) (w := w) (t := t) (ρ := ρ) hv
    exact ⟨v, by simp only [Sem.run_bind, eqGuard_str, Result.andThen_ok]; exact h1, h2⟩
  · obtain ⟨r, hr, rfl⟩ := Option.map_eq_some_iff.1 hv
    obtain ⟨g, e⟩ := eq_rel (w := w) hx hy hr X Y
    exact ⟨_, by simp only [Sem.run_bind, g, Result.andThen_ok, binOp_eq_of hr hx hy, e, Sem.run_pure], VR.bool _⟩
  · obtain ⟨r, hr, rfl⟩ := Option.map_eq_some_iff.1 hv
    obtain ⟨g, e⟩ := eq_rel (w := w) hx hy hr X Y
    exact ⟨_, by simp only [Sem.run_bind, g, Result.andThen_ok, binOp_ne_of hr hx hy, e, Sem.run_pure], VR.bool _⟩
  · cases hv
/-- nil beside nil, one of them written as such, where the type is an interface with methods. -/
def isLit : Operand → Bool | .const _ => true | _ => false
def anilC (P : Program) (op : BinOp) (t : TypeId) (X Y : Operand) (x y : Value) : Option Value :=
  match P.underlying t, op, x, y with
  | some (.interface _), .eql, .nilIface, .nilIface => if (isLit X || isLit Y) = true then some (.bool true) else none
  | some (.interface _), .neq, .nilIface, .nilIface => if (isLit X || isLit Y) = true then some (.bool false) else none
  | _, _, _, _ => none
def orV (a b : Option Value) : Option Value := match a with | some v => some v | none => b
theorem orV_some {v : Value} {b : Option Value} : orV (some v) b = some v := rfl
theorem orV_none {b : Option Value} : orV none b = b := rfl
theorem eqGuard_lit {op : BinOp} {t : TypeId} {X Y : Operand} (h : (isLit X || isLit Y) = true) : (eqGuard op t X Y .nilIface .nilIface).run P w = .ok () w := by
  cases X <;> cases Y <;> first | exact Bool.noConfusion h | (cases op <;> rfl)
theorem equalIn_nil (d : Nat) {t : TypeId} {ms : Array (String × TypeId)} (hd : P.underlying t = some (.interface ms)) : (Op.equalIn (d + 1) t .nilIface .nilIface).run P w = .ok true w := by
  simp [Op.equalIn, run_underlying hd]
theorem equal_nil {t : TypeId} {ms : Array (String × TypeId)} (hd : P.underlying t = some (.interface ms)) : (Op.equal t .nilIface .nilIface).run P w = .ok true w := equalIn_nil 9999 hd
theorem binOp_nil {t : TypeId} : binOp .eql t .nilIface .nilIface = (do pure (.bool (← Op.equal t .nilIface .nilIface)) : Sem Value) := rfl
theorem binOp_nnil {t : TypeId} : binOp .neq t .nilIface .nilIface = (do pure (.bool (!(← Op.equal t .nilIface .nilIface))) : Sem Value) := rfl
theorem binC_rel {op : BinOp} {t : TypeId} {X Y : Operand} {x y x' y' : Value} (hx : VR ρ x x') (hy : VR ρ y y') {v : Value} (hv : orV (abin P op t x y) (anilC P op t X Y x y) = some v) :
    ∃ v', (do eqGuard op t X Y x' y'; binOp op t x' y' : Sem Value).run P w = .ok v' w ∧ VR ρ v v' := by
  cases ha : abin P op t x y with
  | some u => rw [ha] at hv; cases hv; exact bin_rel hx hy ha X Y
  | none =>
    rw [ha, orV_none] at hv
    unfold anilC at hv
    split at hv
    · rename_i ms hd
      split at hv
      · rename_i hl
        cases hv
        rw [hx.nilIface_inv, hy.nilIface_inv]
        exact ⟨.bool true, by simp only [Sem.run_bind, eqGuard_lit hl, Result.andThen_ok, binOp_nil, equal_nil hd, Sem.run_pure], VR.bool _⟩
      · cases hv
    · rename_i ms hd
      split at hv
      · rename_i hl
        cases hv
        rw [hx.nilIface_inv, hy.nilIface_inv]
        exact ⟨.bool false, by simp only [Sem.run_bind, eqGuard_lit hl, Result.andThen_ok, binOp_nnil, equal_nil hd, Sem.run_pure, Bool.not_true], VR.bool _⟩
      · cases hv
    · cases hv
theorem un_rel {op : UnOp} {x x' : Value} (hx : VR ρ x x') {v : Value} (hv : aun op x = some v) : ∃ v', (Op.unary op x').run P w = .ok v' w ∧ VR ρ v v' := by
  unfold aun at hv
  split at hv
  · cases hv; rw [hx.bool_inv]; exact ⟨_, by simp [Op.unary], VR.bool _⟩
  · cases hv; rw [hx.int_inv]; exact ⟨_, by simp [Op.unary, Op.intArith], VR.int _ _⟩
  · cases hv; rw [hx.int_inv]; exact ⟨_, by simp only [Op.unary, intBits_xor, Sem.run_pure], VR.int _ _⟩
  · cases hv
end
end Go.Proofs.YthmpaddhmgnkbaaDoor.Am
end
