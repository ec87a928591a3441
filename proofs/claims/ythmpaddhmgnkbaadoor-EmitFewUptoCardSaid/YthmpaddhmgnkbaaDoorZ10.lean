/- The texts of this seat, one behind another (part 10 of 25): the frame (an abstract machine), the contracts of functions, the laws. -/
import Derived.Test.YthmpaddhmgnkbaaDoorZ9
import Derived.IntWalk
section
/- The frame Am, a text beside the others: the walk's equations in one hand; what comparisons and sums come to; slices that are read and rows that grow. Nothing of a program stands here. -/
set_option linter.unusedVariables false
set_option linter.unusedSimpArgs false
set_option linter.defProp false
namespace Go.Proofs.YthmpaddhmgnkbaaDoor.Am
open Go Go.RowKit

section
variable {P : Program} {n : Nat} {all : Array Oper} {Q : Exit → Tm → Heap → Prop} {rest : List Oper} {tm : Tm} {h : Heap} {t : TypeId} {k : IntKind} {x y : Int}
theorem abin_add : abin P .add t (.int k x) (.int k y) = some (.int k (k.wrap (x + y))) := by simp [abin, aint]
theorem abin_sub : abin P .sub t (.int k x) (.int k y) = some (.int k (k.wrap (x - y))) := by simp [abin, aint]
theorem abin_mul : abin P .mul t (.int k x) (.int k y) = some (.int k (k.wrap (x * y))) := by simp [abin, aint]
theorem abin_quo (hy : y ≠ 0) : abin P .quo t (.int k x) (.int k y) = some (.int k (k.wrap (x.tdiv y))) := by simp [abin, aint, hy]
theorem abin_rem (hy : y ≠ 0) : abin P .rem t (.int k x) (.int k y) = some (.int k (x.tmod y)) := by simp [abin, aint, hy]
theorem abin_and : abin P .and t (.int k x) (.int k y) = some (.int k (bits .and k x y)) := by simp [abin, aint]
theorem abin_or : abin P .or t (.int k x) (.int k y) = some (.int k (bits .or k x y)) := by simp [abin, aint]
theorem abin_xor : abin P .xor t (.int k x) (.int k y) = some (.int k (bits .xor k x y)) := by simp [abin, aint]
theorem abin_andNot : abin P .andNot t (.int k x) (.int k y) = some (.int k (bits .andNot k x y)) := by simp [abin, aint]
theorem abin_eql : abin P .eql t (.int k x) (.int k y) = some (.bool (decide (x = y))) := by by_cases e : x = y <;> simp [abin, aint, e]
theorem abin_neq : abin P .neq t (.int k x) (.int k y) = some (.bool (decide (¬ x = y))) := by by_cases e : x = y <;> simp [abin, aint, e]
theorem abin_lss : abin P .lss t (.int k x) (.int k y) = some (.bool (decide (x < y))) := by simp [abin, aint]
theorem abin_leq : abin P .leq t (.int k x) (.int k y) = some (.bool (decide (x ≤ y))) := by simp [abin, aint]
theorem abin_gtr : abin P .gtr t (.int k x) (.int k y) = some (.bool (decide (y < x))) := by simp [abin, aint]
theorem abin_geq : abin P .geq t (.int k x) (.int k y) = some (.bool (decide (y ≤ x))) := by simp [abin, aint]
theorem abin_streq {a b : ByteArray} : abin P .eql t (.string a) (.string b) = some (.bool (decide (a.toList = b.toList))) := by
  simp only [abin, astr]; congr 2
  by_cases e : a.toList = b.toList <;> simp [e]
theorem abin_strneq {a b : ByteArray} : abin P .neq t (.string a) (.string b) = some (.bool (decide (¬ a.toList = b.toList))) := by
  simp only [abin, astr]; congr 2
  by_cases e : a.toList = b.toList <;> simp [e]
theorem aun_not {b : Bool} : aun .not (.bool b) = some (.bool !b) := rfl
theorem aun_not_dec {p : Prop} [Decidable p] : aun .not (.bool (decide p)) = some (.bool (decide (¬ p))) := by simp [aun]
theorem gateO_dec {p : Prop} [Decidable p] {o : Oper} (h1 : p → aops P all Q (o :: rest) tm h) (h2 : ¬ p → aops P all Q rest (aput tm o.dst undef) h) : gateO (some (decide p)) true P all Q o rest tm h :=
  gateO_split (fun h => h1 (of_decide_eq_true h)) (fun h => h2 (of_decide_eq_false h))
theorem gateO_decF {p : Prop} [Decidable p] {o : Oper} (h1 : ¬ p → aops P all Q (o :: rest) tm h) (h2 : p → aops P all Q rest (aput tm o.dst undef) h) : gateO (some (decide p)) false P all Q o rest tm h :=
  gateO_split (fun h => h1 (of_decide_eq_false h)) (fun h => h2 (of_decide_eq_true h))
theorem gateO_boolT {b : Bool} {o : Oper} (h1 : b = true → aops P all Q (o :: rest) tm h) (h2 : b = false → aops P all Q rest (aput tm o.dst undef) h) : gateO (some b) true P all Q o rest tm h := gateO_split h1 h2
theorem gateO_boolF {b : Bool} {o : Oper} (h1 : b = false → aops P all Q (o :: rest) tm h) (h2 : b = true → aops P all Q rest (aput tm o.dst undef) h) : gateO (some b) false P all Q o rest tm h := gateO_split h1 h2
/-- A call whose contract tells its answer and leaves all as it was. -/
theorem ACalls.use_pure {f : FuncId} {args : Array Value} {V : Value} {H' : Heap} {Qr Qp : Value → Heap → Prop} (H : ACalls P f args h (fun v h' => v = V ∧ h' = H')) (h1 : Qr V H') : ACallsX P f args h Qr Qp :=
  H.use fun v h' e => by rw [e.1, e.2]; exact h1
def drK (P : Program) (ops : Array Oper) (Q : Exit → Tm → Heap → Prop) (r : Bool) (π : List (Nat × Bool)) (tm : Tm) (h : Heap) (o : Option Oper) : Prop := match o with | none => False | some o => aops P ops (dK (DR P ops Q π) r h Q) [o] tm h
theorem DR_cons' {ops : Array Oper} {i : Nat} {r : Bool} {π : List (Nat × Bool)} : DR P ops Q ((i, r) :: π) tm h = drK P ops Q r π tm h (ops[i]?) := by
  simp only [DR, drK]
  cases ops[i]? <;> rfl
theorem drK_some {ops : Array Oper} {r : Bool} {π : List (Nat × Bool)} {o : Oper} : drK P ops Q r π tm h (some o) = aops P ops (dK (DR P ops Q π) r h Q) [o] tm h := propext Iff.rfl
def gvalO (o : Option Tmp) (tm : Tm) : Option Bool := match o with | some d => boolOf (tm d) | none => none
theorem gval_def {j : Nat} : gval all tm j = gvalO ((all[j]?).bind (·.dst)) tm := rfl
theorem gvalO_some {d : Nat} : gvalO (some d) tm = boolOf (tm d) := rfl
end
/-- The walk's equations. -/
def wk := And.intro @W_skip <| And.intro @W_scope <| And.intro @W_label <| And.intro @W_seq <| And.intro @W_region <| And.intro @W_draw <| And.intro @W_cond <| And.intro @W_block <| And.intro @W_exit <| And.intro @W_ret <|
  And.intro @thenK_normal <| And.intro @thenK_ret <| And.intro @thenK_exit <| And.intro @thenK_raised <| And.intro @blockK_normal <| And.intro @blockK_ret <| And.intro @blockK_exit <| And.intro @blockK_raised <|
  And.intro @retK_normal <| And.intro @retK_ret <| And.intro @retK_raised <| And.intro @panicK_eq <| And.intro @resOf_one <| And.intro @resOf_cell <| And.intro @resOf_ct <| And.intro @resOf_tc <| And.intro @tupV_some <| And.intro @cellV_ptr <| And.intro @optV_eq <| And.intro @resOf_two <| And.intro @resOf_three <| And.intro @resOf_four <| And.intro @resOf_none <|
  And.intro @ev_tmp <| And.intro @ev_const <| And.intro @ev_func <| And.intro @ev_global <| And.intro @aput_get <| And.intro @aput_none <| And.intro @aops_nil <| And.intro @aops_guard <|
  And.intro @gateO_tt <| And.intro @gateO_ff <| And.intro @gateO_tf <| And.intro @gateO_ft <| And.intro @gateO_none <| And.intro @aops_move <| And.intro @aops_assign <| And.intro @pickV_bool <|
  And.intro @aops_pick <| And.intro @loadV_ptr <| And.intro @aops_load <| And.intro @nilV_ptr <| And.intro @aops_nilCheck <| And.intro @aops_binOp <| And.intro @orV_some <| And.intro @orV_none <| And.intro @aops_unOp <| And.intro @aops_convert <| And.intro @convM_some <| And.intro @convM_none <| And.intro @aops_lookup <| And.intro @aops_mapUpdate <| And.intro @aops_makeMap <| And.intro @aops_clear <| And.intro @aops_copy <| And.intro @aops_delete <|
  And.intro @aops_slice <| And.intro @aops_fieldAddr <| And.intro @aops_field <| And.intro @aops_indexAddr <| And.intro @aops_index <| And.intro @extV_tuple <| And.intro @aops_extract <| And.intro @aops_build <|
  And.intro @aops_makeInterface <| And.intro @aops_panic <| And.intro @aops_invoke <| And.intro @invK_some <| And.intro @aops_assert <| And.intro @raiseV_iface <| And.intro @aops_makeFunc <| And.intro @aops_callv <| And.intro @aops_len <| And.intro @aops_min <| And.intro @aops_max <| And.intro @aops_alloc <| And.intro @aops_box <| And.intro @aops_buildSlice <| And.intro @aops_makeSlice <|
  And.intro @aops_store <| And.intro @aops_append <| And.intro @atm_get <| And.intro @optK_some <| And.intro @optH_some <| And.intro @nextK_eq <| And.intro @nextH_eq <| And.intro @condK_true <| And.intro @condK_false <|
  And.intro @boolOf_bool <| And.intro @boolOf_undef <| And.intro @DR_nil <| And.intro @dK_f <| And.intro @DR_cons' <| And.intro @drK_some <| And.intro @dK_raised <|
  And.intro @abin_add <| And.intro @abin_sub <| And.intro @abin_mul <| And.intro @abin_and <| And.intro @abin_or <| And.intro @abin_xor <| And.intro @abin_andNot <| And.intro @abin_eql <| And.intro @abin_neq <|
  And.intro @abin_lss <| And.intro @abin_leq <| And.intro @abin_gtr <| And.intro @abin_geq <| And.intro @abin_streq <| And.intro @abin_strneq <| And.intro @aun_not_dec <| @aun_not
theorem eqT {p : Prop} [Decidable p] : (true = decide p) = p := by simp
theorem eqF {p : Prop} [Decidable p] : (false = decide p) = (¬ p) := by simp
/-- Lists and options. -/
def wl := And.intro @gval_def <| And.intro @gvalO_some <| And.intro @List.getElem?_toArray.{0} <| And.intro @List.getElem?_cons_zero.{0} <| And.intro @List.getElem?_cons_succ.{0} <| And.intro @Option.bind_some.{0,0} <| And.intro @Option.map_some.{0,0} <| And.intro @Option.map_none.{0,0} <|
  And.intro @List.getD_cons_zero.{0} <| And.intro @List.getD_cons_succ.{0} <| And.intro @if_true.{1} <| And.intro @if_false.{1} <| And.intro decide_true <| And.intro decide_false <| And.intro @List.map_toArray.{0,0} <| And.intro @List.map_cons.{0,0} <| And.intro @List.map_nil.{0,0} <|
  And.intro Bool.not_true <| And.intro Bool.not_false <| And.intro Bool.false_eq_true <| And.intro @Int.toNat_natCast <| And.intro @eq_self.{1} <| @true_and
def wz := And.intro @Nat.zero_add <| And.intro not_false_eq_true not_true_eq_false
end Go.Proofs.YthmpaddhmgnkbaaDoor.Am
end
section
/- The frame Am, a text beside the others: what a call leaves as it was; slices that are read; rows that are the call's own and grow. Nothing of a program stands here. -/
set_option linter.unusedVariables false
set_option linter.unusedSimpArgs false
namespace Go.Proofs.YthmpaddhmgnkbaaDoor.Am
open Go Go.RowKit

def Wf (h : Heap) : Prop := (∀ b, h.size ≤ b → h.get b = none) ∧ ∀ b k, h.get b = some k → k.fam ≤ b
/-- What may have changed is told by D; what is new has memory of its own or of blocks told by D. -/
def Ch (D : Nat → Prop) (h h' : Heap) : Prop :=
  Wf h' ∧ h.size ≤ h'.size ∧ (∀ b, b < h.size → ¬ D b → h'.get b = h.get b) ∧
  (∀ b k, h.size ≤ b → h'.get b = some k → h.size ≤ k.fam ∨ ∃ y k0, D y ∧ h.get y = some k0 ∧ k.fam = k0.fam) ∧
  (∀ b k', b < h.size → h'.get b = some k' → ∃ k, h.get b = some k ∧ k'.fam = k.fam) ∧
  (∀ b, b < h.size → ¬ D b → h'.obj b = h.obj b)
/-- All that was there is as it was. -/
def Keeps (h h' : Heap) : Prop := Ch (fun _ => False) h h'
section
variable {P : Program} {h h' h'' : Heap} {n : Nat} {tm : Tm}
theorem Wf.lt (H : Wf h) {b k} (hk : h.get b = some k) : b < h.size := by
  rcases Nat.lt_or_ge b h.size with h1 | h1
  · exact h1
  · rw [H.1 b h1] at hk; cases hk
variable {D D' : Nat → Prop}
theorem Ch.wf (C : Ch D h h') : Wf h' := C.1
theorem Ch.le (C : Ch D h h') : h.size ≤ h'.size := C.2.1
theorem Ch.at (C : Ch D h h') {b : Nat} (hb : b < h.size) (hd : ¬ D b) : h'.get b = h.get b := C.2.2.1 b hb hd
theorem Ch.obj (C : Ch D h h') {b : Nat} (hb : b < h.size) (hd : ¬ D b) : h'.obj b = h.obj b := C.2.2.2.2.2 b hb hd
theorem Keeps.obj (C : Keeps h h') {b : Nat} (hb : b < h.size) : h'.obj b = h.obj b := C.2.2.2.2.2 b hb id
theorem Keeps.at (C : Keeps h h') {b : Nat} (hb : b < h.size) : h'.get b = h.get b := C.2.2.1 b hb id
theorem Ch.mono (C : Ch D h h') (hd : ∀ b, D b → D' b) : Ch D' h h' := by
  obtain ⟨c1, c2, c3, c4, c5, c6⟩ := C
  refine ⟨c1, c2, fun b hb h1 => c3 b hb fun h2 => h1 (hd b h2), fun b k hb hk => (c4 b k hb hk).imp id ?_, c5, fun b hb h1 => c6 b hb fun h2 => h1 (hd b h2)⟩
  rintro ⟨y, k0, h1, h2, h3⟩
  exact ⟨y, k0, hd y h1, h2, h3⟩
theorem Keeps.refl (H : Wf h) : Keeps h h := ⟨H, Nat.le_refl _, fun _ _ _ => rfl, fun b k hb hk => (by rw [H.1 b hb] at hk; cases hk), fun b k _ hk => ⟨k, hk, rfl⟩, fun _ _ _ => rfl⟩
/-- What a part of a body changes, told of the whole: all of it is the body's own. -/
theorem Keeps.step (H : Keeps h h') (C : Ch D h' h'') (hd : ∀ b, D b → h.size ≤ b) : Keeps h h'' := by
  obtain ⟨c1, c2, c3, c4, c5, c6⟩ := C
  obtain ⟨k1, k2, k3, k4, k5, k6⟩ := H
  refine ⟨c1, Nat.le_trans k2 c2, fun b hb _ => (c3 b (by omega) fun h1 => by have := hd b h1; omega).trans (k3 b hb id), fun b k hb hk => .inl ?_, fun b k hb hk => ?_, fun b hb _ => (c6 b (by omega) fun h1 => by have := hd b h1; omega).trans (k6 b hb id)⟩
  · rcases Nat.lt_or_ge b h'.size with h1 | h1
    · obtain ⟨k0, g1, g2⟩ := c5 b k h1 hk
      rw [g2]
      exact (k4 b k0 hb g1).resolve_right fun ⟨_, _, e, _⟩ => e
    · rcases c4 b k h1 hk with g | ⟨y, k0, g1, g2, g3⟩
      · omega
      · rw [g3]
        exact (k4 y k0 (hd y g1) g2).resolve_right fun ⟨_, _, e, _⟩ => e
  · obtain ⟨k0, g1, g2⟩ := c5 b k (by omega) hk
    obtain ⟨k9, g3, g4⟩ := k5 b k0 hb g1
    exact ⟨k9, g3, g2.trans g4⟩
theorem Keeps.trans (H : Keeps h h') (K : Keeps h' h'') : Keeps h h'' := H.step K fun _ e => e.elim
theorem Keeps.reads (H : Wf h) (K : Keeps h h') : Reads h h' := fun b k hk => ⟨k, (K.at (H.lt hk)).trans hk, rfl, rfl, id⟩
theorem Wf.push (H : Wf h) {k : Blk} (hk : k.fam ≤ h.size) : Wf (h.push k) := by
  refine ⟨fun b hb => ?_, fun b k' hb => ?_⟩
  · have : h.size + 1 ≤ b := hb
    rw [Heap.push_ne (by omega)]; exact H.1 b (by omega)
  · by_cases e : b = h.size
    · subst e; rw [Heap.push_self] at hb; cases hb; exact hk
    · rw [Heap.push_ne e] at hb; exact H.2 b k' hb
theorem Wf.put (H : Wf h) {b : Nat} {k k0 : Blk} (hb : h.get b = some k0) (hf : k.fam = k0.fam) : Wf (h.put b k) := by
  refine ⟨fun x hx => ?_, fun x k' hx => ?_⟩
  · have : h.size ≤ x := hx
    have := H.lt hb
    rw [Heap.put_ne (by omega)]; exact H.1 x hx
  · by_cases e : x = b
    · subst e; rw [Heap.put_self] at hx; cases hx; rw [hf]; exact H.2 x k0 hb
    · rw [Heap.put_ne e] at hx; exact H.2 x k' hx
theorem kill_get {f x : Nat} : (h.kill f).get x = (h.get x).map (Blk.killed f) := rfl
theorem killed_fam {f : Nat} {k : Blk} : (Blk.killed f k).fam = k.fam := by unfold Blk.killed; split <;> rfl
theorem killed_ne {f : Nat} {k : Blk} (hf : k.fam ≠ f) : Blk.killed f k = k := by unfold Blk.killed; rw [if_neg (fun e => hf e.1)]
theorem Wf.kill (H : Wf h) (f : Nat) : Wf (h.kill f) := by
  refine ⟨fun x hx => ?_, fun x k hx => ?_⟩
  · rw [kill_get, H.1 x hx]; rfl
  · rw [kill_get, Option.map_eq_some_iff] at hx
    obtain ⟨k0, h1, rfl⟩ := hx
    rw [killed_fam]; exact H.2 x k0 h1
theorem Keeps.new (H : Wf h) (e : TypeId) (cs : List Value) : Keeps h (h.new e cs) := by
  refine ⟨H.push (Nat.le_refl _), Nat.le_succ _, fun b hb _ => Heap.push_ne (by omega), fun b k hb hk => .inl ?_, fun b k hb hk => ?_, fun _ _ _ => rfl⟩
  · by_cases eb : b = h.size
    · subst eb
      have : (h.new e cs).get h.size = some ⟨cs, e, h.size, true, true, false⟩ := Heap.push_self
      rw [this] at hk; cases hk; exact Nat.le_refl _
    · have : (h.new e cs).get b = h.get b := Heap.push_ne eb
      rw [this, H.1 b hb] at hk; cases hk
  · have : (h.new e cs).get b = h.get b := Heap.push_ne (by omega)
    exact ⟨k, this ▸ hk, rfl⟩
theorem new_self {e : TypeId} {cs : List Value} : (h.new e cs).get h.size = some ⟨cs, e, h.size, true, true, false⟩ := Heap.push_self
theorem new_size {e : TypeId} {cs : List Value} : (h.new e cs).size = h.size + 1 := rfl

/-- A contract's proof may lean on the heap's order. -/
theorem ACallsX.wf {f : FuncId} {args : Array Value} {Qr Qp : Value → Heap → Prop} (H : Wf h → ACallsX P f args h Qr Qp) : ACallsX P f args h Qr Qp :=
  fun w0 ρ w args' hr ha => H ⟨hr.dom, hr.fam⟩ w0 ρ w args' hr ha
theorem acallsX_of_W' {f : FuncId} {fn : Func} {c : Code} {args : Array Value} {Qr Qp : Value → Heap → Prop} (hf : P.funcs[f]? = some fn) (hb : fn.body = some c) (hok : codeOk P fn.ntmps c = true)
    (hr : resOk fn.ntmps fn.results = true) (hsz : args.size ≤ fn.ntmps) (hw : Wf h → W P fn.ntmps c (retK P fn.results Qr Qp) (atm args) h) : ACallsX P f args h Qr Qp := ACallsX.wf fun H => acallsX_of_W hf hb hok hr hsz (hw H)
theorem acalls_of_W' {f : FuncId} {fn : Func} {c : Code} {args : Array Value} {Qr : Value → Heap → Prop} (hf : P.funcs[f]? = some fn) (hb : fn.body = some c) (hok : codeOk P fn.ntmps c = true)
    (hr : resOk fn.ntmps fn.results = true) (hsz : args.size ≤ fn.ntmps) (hw : Wf h → W P fn.ntmps c (retK P fn.results Qr (fun _ _ => False)) (atm args) h) : ACalls P f args h Qr := acallsX_of_W' hf hb hok hr hsz hw

/-- A slice of n elements of s cells each, these cells. -/
def Rd (P : Program) (h : Heap) (s : Nat) (v : Value) (n : Nat) (cs : List Value) : Prop :=
  cs.length = n * s ∧ ((n = 0 ∧ (v = .slice none 0 0 ∨ v = .slice none 0 1)) ∨
    ∃ b o c k, v = .slice (some ⟨b, o, none⟩) n c ∧ b < h.size ∧ h.get b = some k ∧ k.live = true ∧ asz P k.elem = some s ∧ o + n * s ≤ k.cells.length ∧ (k.cells.drop o).take (n * s) = cs)
/-- A slice of numbers. -/
def RdI (P : Program) (h : Heap) (k : IntKind) (v : Value) (xs : List Int) : Prop := Rd P h 1 v xs.length (xs.map (Value.int k))
/-- The place of an element. -/
def eltA (v : Value) (s i : Nat) : Addr :=
  match v with
  | .slice (some a) _ _ => ⟨a.block, a.off + i * s, none⟩
  | _ => ⟨0, 0, none⟩
def blkOf (v : Value) : Option Nat :=
  match v with
  | .slice (some a) _ _ => some a.block
  | _ => none
variable {s : Nat} {v : Value} {cs : List Value} {k : IntKind} {xs : List Int}
theorem Rd.reads (R : Rd P h s v n cs) (hs : h.size ≤ h'.size) (K : Reads h h') : Rd P h' s v n cs := by
  obtain ⟨h1, h2⟩ := R
  refine ⟨h1, h2.imp id ?_⟩
  rintro ⟨b, o, c, k, e, hb, hk, hl, ha, ho, hc⟩
  obtain ⟨k', g1, g2, g3, g4⟩ := K b k hk
  exact ⟨b, o, c, k', e, by omega, g1, g4 hl, by rw [g3]; exact ha, by rw [g2]; exact ho, by rw [g2]; exact hc⟩
theorem Ch.rd (C : Ch D h h') (R : Rd P h s v n cs) (hd : ∀ b, blkOf v = some b → ¬ D b) : Rd P h' s v n cs := by
  obtain ⟨h1, h2⟩ := R
  refine ⟨h1, h2.imp id ?_⟩
  rintro ⟨b, o, c, k, e, hb, hk, hr⟩
  exact ⟨b, o, c, k, e, Nat.lt_of_lt_of_le hb C.le, (C.at hb (hd b (by rw [e]; rfl))).trans hk, hr⟩
theorem Rd.keeps (R : Rd P h s v n cs) (K : Keeps h h') : Rd P h' s v n cs := Ch.rd K R fun _ _ => id
theorem RdI.keeps (R : RdI P h k v xs) (K : Keeps h h') : RdI P h' k v xs := Rd.keeps R K
theorem Rd.len (R : Rd P h s v n cs) {t e : TypeId} (ht : P.underlying t = some (.slice e)) : abuiltin P .len #[t] #[v] = some (.int .i64 n) := by
  obtain ⟨_, h2⟩ := R
  rcases h2 with ⟨rfl, rfl | rfl⟩ | ⟨b, o, c, k, rfl, _⟩ <;> simp [abuiltin, ht]
theorem Rd.index (R : Rd P h s v n cs) {t e : TypeId} (ht : P.underlying t = some (.slice e)) (hs : asz P e = some s) {q : IntKind} {i : Int} (h0 : 0 ≤ i) (h1 : i < n) :
    aindexAddr P t v (.int q i) = some (.pointer (some (eltA v s i.toNat))) := by
  obtain ⟨_, h2⟩ := R
  rcases h2 with ⟨rfl, _⟩ | ⟨b, o, c, k, rfl, _⟩
  · omega
  · simp [aindexAddr, ht, hs, h0, h1, eltA]
/-- One cell of an element. -/
theorem Rd.at (R : Rd P h s v n cs) {t : TypeId} {d : TypeDesc} (ht : P.underlying t = some d) (hd : isAggD d = false) {i j : Nat} (hi : i < n) (hj : j < s) : aload P h t ⟨(eltA v s i).block, (eltA v s i).off + j, none⟩ = cs[i * s + j]? := by
  obtain ⟨hl, h2⟩ := R
  have hlt : i * s + j < n * s := by
    have : (i + 1) * s ≤ n * s := Nat.mul_le_mul_right s (by omega)
    rw [Nat.add_mul] at this; omega
  rcases h2 with ⟨rfl, _⟩ | ⟨b, o, c, k, rfl, hb, hk, hlv, ha, ho, hc⟩
  · omega
  · simp only [aload, eltA, hk, hlv, if_true, ht, hd, Bool.false_eq_true, if_false]
    rw [← hc, List.getElem?_take, if_pos hlt, List.getElem?_drop]
    congr 1; omega
theorem eltA_eta {v : Value} {s i : Nat} : (⟨(eltA v s i).block, (eltA v s i).off + 0, none⟩ : Addr) = eltA v s i := by
  unfold eltA; split <;> rfl
theorem Rd.at0 (R : Rd P h s v n cs) {t : TypeId} {d : TypeDesc} (ht : P.underlying t = some d) (hd : isAggD d = false) {i : Nat} (hi : i < n) (hj : 0 < s) : aload P h t (eltA v s i) = cs[i * s]? := by
  have := R.at ht hd hi hj
  rw [eltA_eta] at this; exact this
theorem RdI.len (R : RdI P h k v xs) {t e : TypeId} (ht : P.underlying t = some (.slice e)) : abuiltin P .len #[t] #[v] = some (.int .i64 xs.length) := Rd.len R ht
theorem RdI.index (R : RdI P h k v xs) {t e : TypeId} (ht : P.underlying t = some (.slice e)) (hs : asz P e = some 1) {q : IntKind} {i : Int} (h0 : 0 ≤ i) (h1 : i < xs.length) :
    aindexAddr P t v (.int q i) = some (.pointer (some (eltA v 1 i.toNat))) := Rd.index R ht hs h0 h1
theorem RdI.at (R : RdI P h k v xs) {t : TypeId} {d : TypeDesc} (ht : P.underlying t = some d) (hd : isAggD d = false) {i : Nat} (hi : i < xs.length) : aload P h t (eltA v 1 i) = some (.int k (xs.getD i 0)) := by
  rw [Rd.at0 R ht hd hi (by omega)]
  simp [hi]
theorem Rd.nil0 {s : Nat} : Rd P h s (.slice none 0 0) 0 [] := ⟨by simp, .inl ⟨rfl, .inl rfl⟩⟩
/-- A new block of its own is read. -/
theorem Rd.new (H : Wf h) {e : TypeId} {s m c : Nat} {cells : List Value} (he : asz P e = some s) (hl : cells.length = m * s) : Rd P (h.new e cells) s (.slice (some ⟨h.size, 0, none⟩) m c) m cells :=
  ⟨hl, .inr ⟨h.size, 0, c, _, rfl, Nat.lt_succ_self _, new_self, rfl, he, by simp [hl], by simp [← hl]⟩⟩

/-- A row that may grow: it is none; its room is known to be full; or its memory is the call's own (block B or behind) and ends with it. -/
def Own (P : Program) (B : Nat) (h : Heap) (s : Nat) (v : Value) (n : Nat) (cs : List Value) : Prop :=
  Rd P h s v n cs ∧ ((∃ c, v = .slice none 0 c) ∨ (∃ a, v = .slice (some a) n (n + 1)) ∨
    ∃ b o c k, v = .slice (some ⟨b, o, none⟩) n c ∧ B ≤ b ∧ h.get b = some k ∧ k.ro = false ∧ k.tail = true ∧ o + n * s = k.cells.length ∧ b < h.size)
theorem Own.rd {B : Nat} (O : Own P B h s v n cs) : Rd P h s v n cs := O.1
theorem Own.nil0 {B s : Nat} : Own P B h s (.slice none 0 0) 0 [] := ⟨Rd.nil0, .inl ⟨0, rfl⟩⟩
theorem Own.new (H : Wf h) {B : Nat} (hB : B ≤ h.size) {e : TypeId} {s m c : Nat} {cells : List Value} (he : asz P e = some s) (hl : cells.length = m * s) : Own P B (h.new e cells) s (.slice (some ⟨h.size, 0, none⟩) m c) m cells :=
  ⟨Rd.new H he hl, .inr (.inr ⟨h.size, 0, c, _, rfl, hB, new_self, rfl, rfl, by simp [hl], Nat.lt_succ_self _⟩)⟩
theorem Ch.own (C : Ch D h h') {B : Nat} (O : Own P B h s v n cs) (hd : ∀ b, blkOf v = some b → ¬ D b) : Own P B h' s v n cs := by
  obtain ⟨R, h3⟩ := O
  refine ⟨C.rd R hd, h3.imp id (Or.imp id ?_)⟩
  rintro ⟨b, o, c, k, rfl, hB, hk, hr, ht, hl, hlt⟩
  exact ⟨b, o, c, k, rfl, hB, (C.at hlt (hd b rfl)).trans hk, hr, ht, hl, Nat.lt_of_lt_of_le hlt C.le⟩
theorem Own.keeps {B : Nat} (O : Own P B h s v n cs) (K : Keeps h h') : Own P B h' s v n cs := Ch.own K O fun _ _ => id
theorem Rd.blk_lt (R : Rd P h s v n cs) {b : Nat} (hb : blkOf v = some b) : b < h.size ∧ ∃ k, h.get b = some k ∧ k.live = true := by
  obtain ⟨_, h2⟩ := R
  rcases h2 with ⟨_, rfl | rfl⟩ | ⟨b', o, c, k, rfl, hlt, hk, hl, _⟩
  · cases hb
  · cases hb
  · cases hb; exact ⟨hlt, k, hk, hl⟩
/-- Behind an append: the new row; all other blocks as they were. -/
theorem Own.append {B : Nat} (H : Wf h) (hB : B ≤ h.size) (O : Own P B h s v n cs) {t t2 e : TypeId} {d2 : TypeDesc} {i : TypeInfo} (ht : P.underlying t = some (.slice e)) (ht2 : P.underlying t2 = some d2) (hd2 : isRowD d2 = true)
    (hi : P.info? e = some i) (hz : zeroFits i = true) (hb : 0 < i.bytes) (hs : i.size = s) {x : Value} {m : Nat} {news : List Value} (hx : anews h s x = some (m, news)) (hm : 0 < m) (hnl : news.length = m * s)
    (hbig : (n + m) * i.bytes ≤ 140737488355328) :
    ∃ h', aappend P h t t2 v x = some (.slice (some ⟨h.size, 0, none⟩) (n + m) 0, h') ∧ Own P B h' s (.slice (some ⟨h.size, 0, none⟩) (n + m) 0) (n + m) (cs ++ news) ∧ h'.size = h.size + 1 ∧ Reads h h' ∧
      Ch (fun b => blkOf v = some b ∧ B ≤ b) h h' ∧ ∃ k, h'.get h.size = some k ∧ k.ro = false ∧ (k.fam = h.size ∨ ∃ b k', blkOf v = some b ∧ B ≤ b ∧ h.get b = some k' ∧ k.fam = k'.fam) := by
  have hm0 : m ≠ 0 := by omega
  have hae : asz P e = some s := by simp [asz, hi, hs]
  have hel : ∀ b k, h.get b = some k → asz P k.elem = some s → ∀ l : List Value, (l.length = (n + m) * s) → asz P k.elem = some s := fun _ _ _ h _ _ => h
  obtain ⟨⟨h1, h2⟩, h3⟩ := O
  have hlen : (cs ++ news).length = (n + m) * s := by simp [h1, hnl, Nat.add_mul]
  rcases h2 with ⟨rfl, hv⟩ | ⟨b, o, c, k, rfl, hlt, hk, hlv, ha, ho, hc⟩
  · have hcs : cs = [] := by simpa using h1
    subst hcs
    refine ⟨h.new e news, ?_, ?_, rfl, (Keeps.new H e news).reads H, Ch.mono (Keeps.new H e news) (fun _ e => e.elim), _, new_self, rfl, .inl rfl⟩
    · simp only [Nat.zero_add] at hbig
      rcases hv with rfl | rfl <;> simp [aappend, ht, ht2, hi, hd2, hb, hz, hs, hx, hm0, hbig]
    · simp only [List.nil_append, Nat.zero_add]
      exact Own.new H hB hae hnl
  · have hbig' : (n + m) * i.bytes ≤ 140737488355328 := hbig
    by_cases hex : c = n + 1
    · refine ⟨h.new e ((k.cells.drop o).take (n * s) ++ news), ?_, ?_, rfl, (Keeps.new H e _).reads H, Ch.mono (Keeps.new H e _) (fun _ e => e.elim), _, new_self, rfl, .inl rfl⟩
      · simp only [aappend, ht, ht2, hi, hd2, hb, hz, hs, hx, hm0, if_false, hk, hlv, ho, ha, hbig, hex, if_true, true_and, and_self]
      · rw [hc]
        exact Own.new H hB hae hlen
    · have h3' : ∃ b' o' c' k', (Value.slice (some ⟨b, o, none⟩) n c) = .slice (some ⟨b', o', none⟩) n c' ∧ B ≤ b' ∧ h.get b' = some k' ∧ k'.ro = false ∧ k'.tail = true ∧ o' + n * s = k'.cells.length ∧ b' < h.size := by
        rcases h3 with ⟨_, e⟩ | ⟨_, e⟩ | h3
        · cases e
        · cases e; exact absurd rfl hex
        · exact h3
      obtain ⟨b', o', c', k', e, hB', hk', hr, htl, hol, _⟩ := h3'
      cases e
      rw [hk] at hk'; cases hk'
      have hgrow : h.grow b k o (n * s) news = (h.put b { k with tail := false }).push ⟨(k.cells.drop o).take (n * s) ++ news, k.elem, k.fam, true, true, false⟩ := by
        simp only [Heap.grow]
        rw [if_pos ⟨htl, hol⟩]
      have hsz : (h.put b { k with tail := false }).size = h.size := rfl
      have hself : (h.grow b k o (n * s) news).get h.size = some ⟨(k.cells.drop o).take (n * s) ++ news, k.elem, k.fam, true, true, false⟩ := by
        rw [hgrow]; exact Heap.push_self
      have hne : ∀ x, x < h.size → x ≠ b → (h.grow b k o (n * s) news).get x = h.get x := fun x hx hxb => by
        rw [hgrow, Heap.push_ne (by rw [hsz]; omega), Heap.put_ne hxb]
      have hbb : (h.grow b k o (n * s) news).get b = some { k with tail := false } := by
        rw [hgrow, Heap.push_ne (by rw [hsz]; omega), Heap.put_self]
      refine ⟨h.grow b k o (n * s) news, ?_, ⟨⟨hlen, .inr ⟨h.size, 0, 0, _, rfl, ?_, hself, rfl, ha, ?_, ?_⟩⟩, .inr (.inr ⟨h.size, 0, 0, _, rfl, hB, hself, rfl, rfl, ?_, ?_⟩)⟩, by rw [hgrow]; rfl, ?_, ?_, _, hself, rfl, .inr ⟨b, k, rfl, hB', hk, rfl⟩⟩
      · simp only [aappend, ht, ht2, hi, hd2, hb, hz, hs, hx, hm0, if_false, hk, hlv, ho, ha, hbig, hex, hr, if_true, true_and, and_self]
      · rw [hgrow]; exact Nat.lt_succ_self _
      · rw [hc]; simp [hlen]
      · rw [hc, List.drop_zero, ← hlen]; exact List.take_length
      · rw [hc]; simp [hlen]
      · rw [hgrow]; exact Nat.lt_succ_self _
      · intro x kx hx
        by_cases e : x = b
        · subst e; rw [hk] at hx; cases hx; exact ⟨_, hbb, rfl, rfl, id⟩
        · exact ⟨kx, (hne x (H.lt hx) e).trans hx, rfl, rfl, id⟩
      · have hwf : Wf (h.grow b k o (n * s) news) := by
          rw [hgrow]; exact Wf.push (Wf.put (k := { k with tail := false }) H hk rfl) (Nat.le_trans (H.2 b k hk) (Nat.le_of_lt hlt))
        refine ⟨hwf, by rw [hgrow]; exact Nat.le_succ _, fun x hx hd => hne x hx (fun e => hd ⟨by rw [e]; rfl, by omega⟩), fun x kx hx hkx => .inr ?_, fun x kx hx hkx => ?_, fun _ _ _ => by rw [hgrow]; rfl⟩
        · have hxe : x = h.size := by
            have h1 := hwf.lt hkx
            rw [hgrow] at h1
            have h2 : x < h.size + 1 := h1
            omega
          subst hxe
          rw [hself] at hkx; cases hkx
          exact ⟨b, k, ⟨rfl, hB'⟩, hk, rfl⟩
        · by_cases e : x = b
          · subst e; rw [hbb] at hkx; cases hkx; exact ⟨k, hk, rfl⟩
          · rw [hne x hx e] at hkx; exact ⟨kx, hkx, rfl⟩
end
theorem arr_index {P : Program} {t e : TypeId} {n : Nat} {a : Addr} {q : IntKind} {i : Int} (ht : P.underlying t = some (.array n e)) (hs : asz P e = some 1) (h0 : 0 ≤ i) (h1 : i < n) :
    aindexAddr P t (.pointer (some a)) (.int q i) = some (.pointer (some ⟨a.block, a.off + i.toNat, none⟩)) := by simp [aindexAddr, ht, hs, h0, h1]
theorem one_cells {v : Value} (h : one v = true) : v.cells = #[v] := by
  cases v <;> first | rfl | cases h
theorem one_int {k : IntKind} {x : Int} : one (.int k x) = true := rfl
theorem one_slice {a n c} : one (.slice a n c) = true := rfl
theorem one_bool {b} : one (.bool b) = true := rfl
theorem build1 {P : Program} {h : Heap} {t e : TypeId} {z v0 : Value} (ht : P.underlying t = some (.slice e)) (hs : asz P e = some 1) (hz : azero P e = some z) (hc : z.cells.size = 1) (h0 : one v0 = true) :
    abuildSlice P h t 1 #[(0, v0)] = some (.slice (some ⟨h.size, 0, none⟩) 1 2, h.new e [v0]) := by
  have hr : Array.range 1 = #[0] := rfl
  simp [abuildSlice, ht, hs, hz, firstOf, Instr.fill, hc, hr, h0, one_cells h0]
theorem build2 {P : Program} {h : Heap} {t e : TypeId} {z v0 v1 : Value} (ht : P.underlying t = some (.slice e)) (hs : asz P e = some 1) (hz : azero P e = some z) (hc : z.cells.size = 1) (h0 : one v0 = true) (h1 : one v1 = true) :
    abuildSlice P h t 2 #[(0, v0), (1, v1)] = some (.slice (some ⟨h.size, 0, none⟩) 2 3, h.new e [v0, v1]) := by
  have hr : Array.range 2 = #[0, 1] := rfl
  simp [abuildSlice, ht, hs, hz, firstOf, Instr.fill, hc, hr, h0, one_cells h0, h1, one_cells h1]
theorem build3 {P : Program} {h : Heap} {t e : TypeId} {z v0 v1 v2 : Value} (ht : P.underlying t = some (.slice e)) (hs : asz P e = some 1) (hz : azero P e = some z) (hc : z.cells.size = 1) (h0 : one v0 = true) (h1 : one v1 = true) (h2 : one v2 = true) :
    abuildSlice P h t 3 #[(0, v0), (1, v1), (2, v2)] = some (.slice (some ⟨h.size, 0, none⟩) 3 4, h.new e [v0, v1, v2]) := by
  have hr : Array.range 3 = #[0, 1, 2] := rfl
  simp [abuildSlice, ht, hs, hz, firstOf, Instr.fill, hc, hr, h0, one_cells h0, h1, one_cells h1, h2, one_cells h2]
theorem build4 {P : Program} {h : Heap} {t e : TypeId} {z v0 v1 v2 v3 : Value} (ht : P.underlying t = some (.slice e)) (hs : asz P e = some 1) (hz : azero P e = some z) (hc : z.cells.size = 1) (h0 : one v0 = true) (h1 : one v1 = true) (h2 : one v2 = true) (h3 : one v3 = true) :
    abuildSlice P h t 4 #[(0, v0), (1, v1), (2, v2), (3, v3)] = some (.slice (some ⟨h.size, 0, none⟩) 4 5, h.new e [v0, v1, v2, v3]) := by
  have hr : Array.range 4 = #[0, 1, 2, 3] := rfl
  simp [abuildSlice, ht, hs, hz, firstOf, Instr.fill, hc, hr, h0, one_cells h0, h1, one_cells h1, h2, one_cells h2, h3, one_cells h3]
theorem build5 {P : Program} {h : Heap} {t e : TypeId} {z v0 v1 v2 v3 v4 : Value} (ht : P.underlying t = some (.slice e)) (hs : asz P e = some 1) (hz : azero P e = some z) (hc : z.cells.size = 1) (h0 : one v0 = true) (h1 : one v1 = true) (h2 : one v2 = true) (h3 : one v3 = true) (h4 : one v4 = true) :
    abuildSlice P h t 5 #[(0, v0), (1, v1), (2, v2), (3, v3), (4, v4)] = some (.slice (some ⟨h.size, 0, none⟩) 5 6, h.new e [v0, v1, v2, v3, v4]) := by
  have hr : Array.range 5 = #[0, 1, 2, 3, 4] := rfl
  simp [abuildSlice, ht, hs, hz, firstOf, Instr.fill, hc, hr, h0, one_cells h0, h1, one_cells h1, h2, one_cells h2, h3, one_cells h3, h4, one_cells h4]
theorem build6 {P : Program} {h : Heap} {t e : TypeId} {z v0 v1 v2 v3 v4 v5 : Value} (ht : P.underlying t = some (.slice e)) (hs : asz P e = some 1) (hz : azero P e = some z) (hc : z.cells.size = 1) (h0 : one v0 = true) (h1 : one v1 = true) (h2 : one v2 = true) (h3 : one v3 = true) (h4 : one v4 = true) (h5 : one v5 = true) :
    abuildSlice P h t 6 #[(0, v0), (1, v1), (2, v2), (3, v3), (4, v4), (5, v5)] = some (.slice (some ⟨h.size, 0, none⟩) 6 7, h.new e [v0, v1, v2, v3, v4, v5]) := by
  have hr : Array.range 6 = #[0, 1, 2, 3, 4, 5] := rfl
  simp [abuildSlice, ht, hs, hz, firstOf, Instr.fill, hc, hr, h0, one_cells h0, h1, one_cells h1, h2, one_cells h2, h3, one_cells h3, h4, one_cells h4, h5, one_cells h5]
theorem buildA3 {P : Program} {h : Heap} {t e : TypeId} {z v0 v1 v2 : Value} (ht : P.underlying t = some (.slice e)) (hs : asz P e = some 3) (hz : azero P e = some z) (hc : z.cells.size = 3) (h0 : one v0 = true) (h1 : one v1 = true) (h2 : one v2 = true) :
    abuildSlice P h t 1 #[(0, .agg #[v0, v1, v2])] = some (.slice (some ⟨h.size, 0, none⟩) 1 2, h.new e [v0, v1, v2]) := by
  have hr : Array.range 3 = #[0, 1, 2] := rfl
  simp [abuildSlice, ht, hs, hz, firstOf, Instr.fill, hc, hr, Value.cells, h0, h1, h2]
end Go.Proofs.YthmpaddhmgnkbaaDoor.Am
end
section
/- The frame Am, a text beside the others: variables of a call's own whose fields are set; rows of structs whose fields are set. Nothing of a program stands here. -/
set_option linter.unusedVariables false
set_option linter.unusedSimpArgs false
namespace Go.Proofs.YthmpaddhmgnkbaaDoor.Am
open Go Go.RowKit
/-- A variable of the call's own: its memory is no other block's. -/
def Var (h : Heap) (b : Nat) (cs : List Value) : Prop := ∃ k, h.get b = some k ∧ k.cells = cs ∧ k.live = true ∧ k.ro = false ∧ k.fam = b ∧ ∀ x k', x ≠ b → h.get x = some k' → k'.fam ≠ b
/-- The blocks of one memory. -/
def FamOf (h : Heap) (b : Nat) (x : Nat) : Prop := ∃ k kb, h.get x = some k ∧ h.get b = some kb ∧ k.fam = kb.fam
section
variable {P : Program} {h h' h'' : Heap} {n s m : Nat} {b : Nat} {cs : List Value} {D : Nat → Prop} {v : Value}
theorem over_one {xs : List Value} {i : Nat} {v : Value} (hi : i < xs.length) : over xs i [v] = xs.set i v := by
  refine List.ext_getElem? fun j => ?_
  rw [over_get (by simp; omega), List.getElem?_set]
  by_cases e : i = j
  · subst e; simp [hi]
  · rw [if_neg (by simp; omega), if_neg e]
theorem over_all {xs vs : List Value} (hl : vs.length = xs.length) : over xs 0 vs = vs := by
  simp [over, hl]
theorem Var.lt (H : Wf h) (V : Var h b cs) : b < h.size := by
  obtain ⟨k, h1, _⟩ := V
  exact H.lt h1
theorem Var.new (H : Wf h) {e : TypeId} {cs : List Value} : Var (h.new e cs) h.size cs := by
  refine ⟨_, new_self, rfl, rfl, rfl, rfl, fun x k' hx hk => ?_⟩
  have : (h.new e cs).get x = h.get x := Heap.push_ne hx
  rw [this] at hk
  have := H.2 x k' hk
  have := H.lt hk
  omega
theorem Ch.var (H : Wf h) (C : Ch D h h') (V : Var h b cs) (hd : ¬ D b) : Var h' b cs := by
  have hlt := V.lt H
  obtain ⟨k, h1, h2, h3, h4, h5, h6⟩ := V
  obtain ⟨c1, c2, c3, c4, c5, _⟩ := C
  refine ⟨k, (c3 b hlt hd).trans h1, h2, h3, h4, h5, fun x k' hx hk => ?_⟩
  rcases Nat.lt_or_ge x h.size with hxs | hxs
  · obtain ⟨k0, g1, g2⟩ := c5 x k' hxs hk
    rw [g2]; exact h6 x k0 hx g1
  · rcases c4 x k' hxs hk with g | ⟨y, k0, g1, g2, g3⟩
    · omega
    · rw [g3]
      by_cases e : y = b
      · subst e; exact absurd g1 hd
      · exact h6 y k0 e g2
theorem Keeps.var (H : Wf h) (K : Keeps h h') (V : Var h b cs) : Var h' b cs := Ch.var H K V id
theorem Var.load1 (V : Var h b cs) {t : TypeId} {d : TypeDesc} (ht : P.underlying t = some d) (hd : isAggD d = false) {i : Nat} : aload P h t ⟨b, i, none⟩ = cs[i]? := by
  obtain ⟨k, h1, rfl, h3, _⟩ := V
  simp [aload, h1, h3, ht, hd]
theorem Var.loadA (V : Var h b cs) {t : TypeId} {d : TypeDesc} (ht : P.underlying t = some d) (hd : isAggD d = true) (hs : asz P t = some cs.length) : aload P h t ⟨b, 0, none⟩ = some (.agg cs.toArray) := by
  obtain ⟨k, h1, rfl, h3, _⟩ := V
  simp [aload, h1, h3, ht, hd, hs]
theorem store_ch (H : Wf h) {k : Blk} (hk : h.get b = some k) {i : Nat} {vs : List Value} : Ch (FamOf h b) h (h.store b k i vs) := by
  have hkf : (h.kill k.fam).get b = some (Blk.killed k.fam k) := by rw [kill_get, hk]; rfl
  have hwf : Wf (h.store b k i vs) := Wf.put (H.kill k.fam) hkf (by rw [killed_fam])
  have hne : ∀ x, x ≠ b → (h.store b k i vs).get x = (h.get x).map (Blk.killed k.fam) := fun x hx => by
    simp only [Heap.store]; rw [Heap.put_ne hx, kill_get]
  have hself : (h.store b k i vs).get b = some { k with cells := over k.cells i vs } := Heap.put_self
  refine ⟨hwf, Nat.le_refl _, fun x hx hd => ?_, fun x kx hx hkx => ?_, fun x kx hx hkx => ?_, fun _ _ _ => rfl⟩
  · have hxb : x ≠ b := fun e => hd (by subst e; exact ⟨k, k, hk, hk, rfl⟩)
    rw [hne x hxb]
    cases hg : h.get x with
    | none => rfl
    | some k' => simp only [Option.map_some]; rw [killed_ne fun e => hd ⟨k', k, hg, hk, e⟩]
  · have := hwf.lt hkx
    have h2 : x < h.size := this
    omega
  · by_cases e : x = b
    · subst e; rw [hself] at hkx; cases hkx; exact ⟨k, hk, rfl⟩
    · rw [hne x e, Option.map_eq_some_iff] at hkx
      obtain ⟨k0, g1, rfl⟩ := hkx
      exact ⟨k0, g1, killed_fam⟩
theorem Var.store (H : Wf h) (V : Var h b cs) {t : TypeId} {v : Value} {i : Nat} (ht : asz P t = some v.cells.size) (hi : i + v.cells.size ≤ cs.length) (h1 : v.cells.all one = true) :
    ∃ h', storeV P h t (.pointer (some ⟨b, i, none⟩)) v = some (undef, h') ∧ Var h' b (over cs i v.cells.toList) ∧ Ch (fun x => x = b) h h' ∧ h'.size = h.size := by
  obtain ⟨k, g1, rfl, g3, g4, g5, g6⟩ := V
  refine ⟨h.store b k i v.cells.toList, ?_, ?_, (store_ch H g1).mono ?_, rfl⟩
  · simp [storeV, astore, g1, g3, g4, ht, hi, h1]
  · refine ⟨_, Heap.put_self, rfl, g3, g4, g5, fun x k' hx hk => ?_⟩
    have hne : (h.store b k i v.cells.toList).get x = (h.get x).map (Blk.killed k.fam) := by
      simp only [Heap.store]; rw [Heap.put_ne hx, kill_get]
    rw [hne, Option.map_eq_some_iff] at hk
    obtain ⟨k0, e1, rfl⟩ := hk
    rw [killed_fam]; exact g6 x k0 hx e1
  · rintro x ⟨k1, k2, e1, e2, e3⟩
    rw [g1] at e2; cases e2
    by_cases e : x = b
    · exact e
    · exact absurd (e3.trans g5) (g6 x k1 e e1)
theorem Var.store1 (H : Wf h) (V : Var h b cs) {t : TypeId} {v : Value} {i : Nat} (ht : asz P t = some 1) (hi : i < cs.length) (h1 : one v = true) :
    ∃ h', storeV P h t (.pointer (some ⟨b, i, none⟩)) v = some (undef, h') ∧ Var h' b (cs.set i v) ∧ Ch (fun x => x = b) h h' ∧ h'.size = h.size := by
  have hc := one_cells h1
  obtain ⟨h', e, V', r⟩ := V.store (P := P) (t := t) (v := v) (i := i) H (by rw [hc]; exact ht) (by rw [hc]; simp; omega) (by rw [hc]; simp [h1])
  refine ⟨h', e, ?_, r⟩
  rw [hc] at V'
  rw [← over_one hi]; exact V'
/-- A row behind an append is of the third kind. -/
theorem Own.third {B : Nat} {a : Addr} (O : Own P B h s (.slice (some a) n 0) n cs) : ∃ b o k, a = ⟨b, o, none⟩ ∧ B ≤ b ∧ h.get b = some k ∧ k.ro = false ∧ k.tail = true ∧ k.live = true ∧ asz P k.elem = some s ∧ o + n * s = k.cells.length ∧ b < h.size ∧ (k.cells.drop o).take (n * s) = cs := by
  obtain ⟨⟨_, h2⟩, h3⟩ := O
  rcases h3 with ⟨_, e⟩ | ⟨_, e⟩ | ⟨b, o, c, k, e, hB, hk, hr, ht, hl, hlt⟩
  · cases e
  · cases e
  · cases e
    rcases h2 with ⟨_, e | e⟩ | ⟨b', o', c', k', e, _, hk', hl', ha, _, hc⟩
    · cases e
    · cases e
    · cases e
      rw [hk] at hk'; cases hk'
      exact ⟨b, o, k, rfl, hB, hk, hr, ht, hl', ha, hl, hlt, hc⟩
theorem Own.store (H : Wf h) {B : Nat} {a : Addr} (O : Own P B h s (.slice (some a) n 0) n cs) {t : TypeId} {w : Value} {i j : Nat} (ht : asz P t = some 1) (h1 : one w = true) (hi : i < n) (hj : j < s) :
    ∃ h', storeV P h t (.pointer (some ⟨(eltA (.slice (some a) n 0) s i).block, (eltA (.slice (some a) n 0) s i).off + j, none⟩)) w = some (undef, h') ∧ Own P B h' s (.slice (some a) n 0) n (cs.set (i * s + j) w) ∧ Ch (FamOf h a.block) h h' ∧ h'.size = h.size ∧
      (∃ k k', h.get a.block = some k ∧ h'.get a.block = some k' ∧ k'.fam = k.fam) := by
  have hlen := O.1.1
  obtain ⟨b, o, k, rfl, hB, hk, hr, htl, hlv, ha, hol, hlt, hc⟩ := O.third
  have hij : i * s + j < n * s := by
    have : (i + 1) * s ≤ n * s := Nat.mul_le_mul_right s (by omega)
    rw [Nat.add_mul] at this; omega
  have hw : w.cells = #[w] := one_cells h1
  have hself : (h.store b k (o + i * s + j) [w]).get b = some { k with cells := over k.cells (o + i * s + j) [w] } := Heap.put_self
  have hover : over k.cells (o + i * s + j) [w] = k.cells.set (o + i * s + j) w := over_one (by omega)
  refine ⟨h.store b k (o + i * s + j) [w], ?_, ?_, store_ch H hk, rfl, k, _, hk, hself, rfl⟩
  · simp only [storeV, astore, eltA, hk, hlv, hr, ht, hw]
    rw [if_pos (by simp [h1]; omega)]
  · have hcs : ((k.cells.set (o + i * s + j) w).drop o).take (n * s) = cs.set (i * s + j) w := by
      rw [← hc, List.drop_set, if_neg (by omega), show o + i * s + j - o = i * s + j by omega, List.take_set]
    refine ⟨⟨by rw [List.length_set]; exact hlen, .inr ⟨b, o, 0, _, rfl, hlt, hself, hlv, ha, ?_, ?_⟩⟩, .inr (.inr ⟨b, o, 0, _, rfl, hB, hself, hr, htl, ?_, hlt⟩)⟩
    · rw [hover, List.length_set]; omega
    · rw [hover]; exact hcs
    · rw [hover, List.length_set]; exact hol
theorem Keeps.ch (K : Keeps h h') (C : Ch D h' h'') (hd : ∀ b, D b → b < h.size) : Ch D h h'' := by
  obtain ⟨c1, c2, c3, c4, c5, c6⟩ := C
  obtain ⟨k1, k2, k3, k4, k5, k6⟩ := K
  refine ⟨c1, Nat.le_trans k2 c2, fun b hb hn => (c3 b (by omega) hn).trans (k3 b hb id), fun b k hb hk => ?_, fun b k hb hk => ?_, fun b hb hn => (c6 b (by omega) hn).trans (k6 b hb id)⟩
  · rcases Nat.lt_or_ge b h'.size with h1 | h1
    · obtain ⟨k0, g1, g2⟩ := c5 b k h1 hk
      rw [g2]
      exact .inl ((k4 b k0 hb g1).resolve_right fun ⟨_, _, e, _⟩ => e)
    · rcases c4 b k h1 hk with g | ⟨y, k0, g1, g2, g3⟩
      · exact .inl (by omega)
      · exact .inr ⟨y, k0, g1, (k3 y (hd y g1) id) ▸ g2, g3⟩
  · obtain ⟨k0, g1, g2⟩ := c5 b k (by omega) hk
    exact ⟨k0, (k3 b hb id) ▸ g1, g2⟩
/-- One element more: it was laid as a row of one behind all there was. -/
theorem Own.append1 (H : Wf h) {B : Nat} (hB : B ≤ h.size) (O : Own P B h s v n cs) {t e : TypeId} {i : TypeInfo} (ht : P.underlying t = some (.slice e))
    (hi : P.info? e = some i) (hz : zeroFits i = true ∧ i.bytes = m ∧ i.size = s) (hs : 0 < s) (hm : 0 < m) {xs : List Value} (hx : xs.length = s) (hbig : (n + 1) * m ≤ 140737488355328) :
    ∃ v' h', aappend P (h.new e xs) t t v (.slice (some ⟨h.size, 0, none⟩) 1 2) = some (v', h') ∧ Own P B h' s v' (n + 1) (cs ++ xs) ∧ Ch (fun b => blkOf v = some b ∧ B ≤ b) h h' ∧ Reads h h' ∧
      v' = .slice (some ⟨h.size + 1, 0, none⟩) (n + 1) 0 ∧ ∃ k, h'.get (h.size + 1) = some k ∧ (h.size ≤ k.fam ∨ ∃ b k', blkOf v = some b ∧ B ≤ b ∧ h.get b = some k' ∧ k.fam = k'.fam) := by
  obtain ⟨hz, rfl, rfl⟩ := hz
  have K := Keeps.new H e xs
  have O1 := O.keeps K
  have hae : asz P e = some i.size := by simp [asz, hi]
  have hxn : anews (h.new e xs) i.size (.slice (some ⟨h.size, 0, none⟩) 1 2) = some (1, xs) := by
    simp only [anews, new_self]
    rw [if_pos (by simp [hx])]
    simp [← hx]
  obtain ⟨h', e1, O2, z, R, C, k, g1, g2, g3⟩ := O1.append (Ch.wf K) (by rw [new_size]; omega) ht ht rfl hi hz hm rfl hxn (by omega) (by omega) hbig
  rw [new_size] at e1 O2 g1
  refine ⟨_, h', e1, O2, K.ch C (fun b hb => (O.1.blk_lt hb.1).1), (K.reads H).trans R, rfl, k, g1, ?_⟩
  rcases g3 with g3 | ⟨b, k', q1, q2, q3, q4⟩
  · rw [new_size] at g3; exact .inl (by omega)
  · refine .inr ⟨b, k', q1, q2, ?_, q4⟩
    rw [← K.at (O.1.blk_lt q1).1]; exact q3
theorem Own.base {B B' : Nat} (O : Own P B h s v n cs) (hb : B' ≤ B) : Own P B' h s v n cs :=
  ⟨O.1, O.2.imp id (Or.imp id fun ⟨b, o, c, k, h1, h2, h3⟩ => ⟨b, o, c, k, h1, by omega, h3⟩)⟩
theorem Rd.one (R : Rd P h s v n cs) : one v = true := by
  obtain ⟨_, ⟨_, rfl | rfl⟩ | ⟨b, o, c, k, rfl, _⟩⟩ := R <;> rfl
theorem alloc_eq {tm : Tm} {e : TypeId} {z : Value} {m : Nat} (hz : azero P e = some z) (hs : asz P e = some m) (h1 : z.cells.all one = true) : aeff P tm h (.alloc e) = some (.pointer (some ⟨h.size, 0, none⟩), h.new e z.cells.toList) := by
  simp [aeff, hz, hs, h1]
end
end Go.Proofs.YthmpaddhmgnkbaaDoor.Am
end
section
/- The frame Am, a text beside the others: slices of slices, rows that grow by other rows. Nothing of a program stands here. -/
set_option linter.unusedVariables false
set_option linter.unusedSimpArgs false
namespace Go.Proofs.YthmpaddhmgnkbaaDoor.Am
open Go Go.RowKit
section
variable {P : Program} {h h' h'' : Heap} {n s m : Nat} {b : Nat} {cs : List Value} {D : Nat → Prop} {v : Value} {k : IntKind} {xs : List Int}
/-- One change behind another. -/
theorem Ch.then {D' : Nat → Prop} (H1 : Ch D h h') (H2 : Ch D' h' h'') (hd : ∀ b, D' b → h.size ≤ b ∨ D b) : Ch D h h'' := by
  obtain ⟨a1, a2, a3, a4, a5, a6⟩ := H1
  obtain ⟨c1, c2, c3, c4, c5, c6⟩ := H2
  refine ⟨c1, Nat.le_trans a2 c2, fun b hb hn => (c3 b (by omega) fun e => (hd b e).elim (fun e => by omega) hn).trans (a3 b hb hn), fun b k hb hk => ?_, fun b k hb hk => ?_, fun b hb hn => (c6 b (by omega) fun e => (hd b e).elim (fun e => by omega) hn).trans (a6 b hb hn)⟩
  · rcases Nat.lt_or_ge b h'.size with h1 | h1
    · obtain ⟨k0, g1, g2⟩ := c5 b k h1 hk
      rw [g2]; exact a4 b k0 hb g1
    · rcases c4 b k h1 hk with g | ⟨y, k0, g1, g2, g3⟩
      · exact .inl (by omega)
      · rw [g3]
        rcases Nat.lt_or_ge y h.size with hy | hy
        · rcases hd y g1 with e | e
          · omega
          · obtain ⟨k9, q1, q2⟩ := a5 y k0 hy g2
            exact .inr ⟨y, k9, e, q1, q2⟩
        · exact a4 y k0 hy g2
  · obtain ⟨k0, g1, g2⟩ := c5 b k (by omega) hk
    obtain ⟨k9, q1, q2⟩ := a5 b k0 hb g1
    exact ⟨k9, q1, g2.trans q2⟩
/-- A part of a slice, from L to H. -/
def sliceV (v : Value) (s L H : Nat) : Value :=
  match v with
  | .slice (some a) _ c => .slice (some ⟨a.block, a.off + L * s, none⟩) (H - L) (if c = 0 then 0 else c - 1 - L + 1)
  | _ => .slice none 0 0
theorem sliceV_blk {v : Value} {s L H : Nat} : blkOf (sliceV v s L H) = blkOf v := by
  unfold sliceV; split
  · rfl
  · rename_i hh
    cases v with
    | slice a n c => cases a with
      | none => rfl
      | some a => exact absurd rfl (hh a n c)
    | _ => rfl
theorem Rd.part (R : Rd P h s v n cs) {L H : Nat} (h1 : L ≤ H) (h2 : H ≤ n) : Rd P h s (sliceV v s L H) (H - L) ((cs.drop (L * s)).take ((H - L) * s)) := by
  obtain ⟨hl, h3⟩ := R
  have e1 : H * s ≤ n * s := Nat.mul_le_mul_right s h2
  have e2 : L * s ≤ H * s := Nat.mul_le_mul_right s h1
  have e3 : (H - L) * s = H * s - L * s := Nat.sub_mul ..
  refine ⟨by simp; omega, ?_⟩
  rcases h3 with ⟨rfl, rfl | rfl⟩ | ⟨b, o, c, k, rfl, hb, hk, hlv, ha, ho, hc⟩
  · obtain rfl : H = 0 := by omega
    obtain rfl : L = 0 := by omega
    exact .inl ⟨rfl, .inl rfl⟩
  · obtain rfl : H = 0 := by omega
    obtain rfl : L = 0 := by omega
    exact .inl ⟨rfl, .inl rfl⟩
  · refine .inr ⟨b, o + L * s, _, k, rfl, hb, hk, hlv, ha, by omega, ?_⟩
    rw [← hc]
    refine List.ext_getElem? fun j => ?_
    simp only [List.getElem?_take, List.getElem?_drop]
    by_cases hj : j < (H - L) * s
    · rw [if_pos hj, if_pos hj, if_pos (by omega)]; congr 1; omega
    · rw [if_neg hj, if_neg hj]
theorem Rd.sliceHi (R : Rd P h s v n cs) {t e : TypeId} (ht : P.underlying t = some (.slice e)) (hs : asz P e = some s) {q' : IntKind} {j : Int} (h1 : 0 ≤ j) (h2 : j ≤ n) :
    aslice P h t v none (some (.int q' j)) none = some (sliceV v s 0 j.toNat) := by
  obtain ⟨hl, h3⟩ := R
  rcases h3 with ⟨rfl, rfl | rfl⟩ | ⟨b, o, c, k, rfl, hb, hk, hlv, ha, ho, hc⟩
  · obtain rfl : j = 0 := by omega
    simp [aslice, ht, hs, boundOf, sliceV]
  · obtain rfl : j = 0 := by omega
    simp [aslice, ht, hs, boundOf, sliceV]
  · have hjm : j ≤ ((if c = 0 then n else max n (c - 1) : Nat) : Int) := by split <;> omega
    simp only [aslice, ht, hs, hk, ha, boundOf, if_true, h1, hjm, and_self, Option.isSome_none, Bool.false_eq_true, false_and, if_false, sliceV]
theorem Rd.sliceLo (R : Rd P h s v n cs) {t e : TypeId} (ht : P.underlying t = some (.slice e)) (hs : asz P e = some s) {q : IntKind} {i : Int} (h0 : 0 ≤ i) (h2 : i ≤ n) :
    aslice P h t v (some (.int q i)) none none = some (sliceV v s i.toNat n) := by
  obtain ⟨hl, h3⟩ := R
  rcases h3 with ⟨rfl, rfl | rfl⟩ | ⟨b, o, c, k, rfl, hb, hk, hlv, ha, ho, hc⟩
  · obtain rfl : i = 0 := by omega
    simp [aslice, ht, hs, boundOf, sliceV]
  · obtain rfl : i = 0 := by omega
    simp [aslice, ht, hs, boundOf, sliceV]
  · simp only [aslice, ht, hs, hk, ha, boundOf, if_true, h0, h2, and_self, Option.isSome_none, Bool.false_eq_true, false_and, if_false, sliceV]
theorem RdI.part (R : RdI P h k v xs) {L H : Nat} (h1 : L ≤ H) (h2 : H ≤ xs.length) : RdI P h k (sliceV v 1 L H) ((xs.drop L).take (H - L)) := by
  have := Rd.part R h1 h2
  unfold RdI
  simp only [Nat.mul_one, List.length_take, List.length_drop] at this ⊢
  rw [show min (H - L) (xs.length - L) = H - L by omega, List.map_take, List.map_drop]
  exact this
theorem RdI.partLo (R : RdI P h k v xs) {L : Nat} (h1 : L ≤ xs.length) : RdI P h k (sliceV v 1 L xs.length) (xs.drop L) := by
  have := R.part h1 (Nat.le_refl _)
  rwa [List.take_of_length_le (by simp)] at this
/-- An empty slice that is written. -/
theorem build0 {t e : TypeId} (ht : P.underlying t = some (.slice e)) (hs : asz P e = some s) : abuildSlice P h t 0 #[] = some (.slice (some ⟨h.size, 0, none⟩) 0 1, h.new e []) := by
  have hr : Array.range 0 = #[] := by decide
  simp [abuildSlice, ht, hs, firstOf, Instr.fill, hr]
/-- What an append reads of the second row. -/
theorem Rd.news (R : Rd P h s v n cs) : anews h s v = some (n, cs) := by
  obtain ⟨hl, h3⟩ := R
  rcases h3 with ⟨rfl, rfl | rfl⟩ | ⟨b, o, c, k, rfl, hb, hk, hlv, ha, ho, hc⟩
  · simp at hl; subst hl; simp [anews]
  · simp at hl; subst hl; simp [anews]
  · simp only [anews, hk, hlv, ho, and_self, if_true, hc]
/-- A row grows by another one, whatever this is. -/
theorem Own.appendRd {B : Nat} (H : Wf h) (hB : B ≤ h.size) (O : Own P B h s v n cs) {t t2 e : TypeId} {d2 : TypeDesc} {i : TypeInfo} (ht : P.underlying t = some (.slice e)) (ht2 : P.underlying t2 = some d2) (hd2 : isRowD d2 = true)
    (hi : P.info? e = some i) (hz : zeroFits i = true ∧ i.bytes = b ∧ i.size = s) (hb : 0 < b) {x : Value} {m : Nat} {news : List Value} (X : Rd P h s x m news) (hbig : (n + m) * b ≤ 140737488355328) :
    ∃ v' h', aappend P h t t2 v x = some (v', h') ∧ Own P B h' s v' (n + m) (cs ++ news) ∧ Reads h h' ∧ Ch (fun y => blkOf v = some y ∧ B ≤ y) h h' ∧ (v' = v ∨ v' = .slice none 0 0 ∨ v' = .slice (some ⟨h.size, 0, none⟩) (n + m) 0) := by
  obtain ⟨hz, rfl, rfl⟩ := hz
  by_cases hm : m = 0
  · subst hm
    have hn : news = [] := List.eq_nil_of_length_eq_zero (by have := X.1; simpa using this)
    subst hn
    have KK : Ch (fun y => blkOf v = some y ∧ B ≤ y) h h := Ch.mono (Keeps.refl H) (fun _ e => e.elim)
    have RR : Reads h h := (Keeps.refl H).reads H
    obtain ⟨R, h3⟩ := O
    have R0 := R
    obtain ⟨hl, h2⟩ := R
    rcases h2 with ⟨rfl, hv⟩ | ⟨b, o, c, k, rfl, hlt, hk, hlv, ha, ho, hc⟩
    · have hcs : cs = [] := by simpa using hl
      subst hcs
      refine ⟨.slice none 0 0, h, ?_, Own.nil0, RR, KK, .inr (.inl rfl)⟩
      rcases hv with rfl | rfl <;> simp [aappend, ht, ht2, hi, hd2, hb, hz, X.news]
    · refine ⟨_, h, ?_, ⟨by simpa using R0, by simpa using h3⟩, RR, KK, .inl rfl⟩
      simp only [aappend, ht, ht2, hi, hd2, hb, hz, and_self, if_true, X.news]
  · obtain ⟨h', e1, O', z, R, C, _⟩ := O.append H hB ht ht2 hd2 hi hz hb rfl (x := x) X.news (by omega) X.1 hbig
    exact ⟨_, h', e1, O', R, C, .inr (.inr rfl)⟩
end
end Go.Proofs.YthmpaddhmgnkbaaDoor.Am
end
section
/- The frame Am, a text beside the others: slices of structs, told of a list of things. Nothing of a program stands here. -/
set_option linter.unusedVariables false
set_option linter.unusedSimpArgs false
namespace Go.Proofs.YthmpaddhmgnkbaaDoor.Am
open Go Go.RowKit
section
variable {P : Program} {h h' : Heap} {s : Nat} {v : Value} {α : Type} {c : α → List Value} {l : List α}
theorem fm_len (hc : ∀ x, (c x).length = s) : (l.flatMap c).length = l.length * s := by
  induction l with
  | nil => simp
  | cons x l ih => simp only [List.flatMap_cons, List.length_append, hc, ih, List.length_cons, Nat.add_mul]; omega
theorem fm_at (hc : ∀ x, (c x).length = s) : ∀ {l : List α} {i j : Nat} {x : α}, l[i]? = some x → j < s → (l.flatMap c)[i * s + j]? = (c x)[j]?
  | [], i, j, x, h, _ => by simp at h
  | y :: l, 0, j, x, h, hj => by
    simp at h; subst h
    rw [List.flatMap_cons, List.getElem?_append_left (by rw [hc]; omega)]; simp
  | y :: l, i + 1, j, x, h, hj => by
    simp at h
    rw [List.flatMap_cons, List.getElem?_append_right (by rw [hc, Nat.add_mul]; omega), ← fm_at hc h hj]
    congr 1
    rw [hc, Nat.add_mul]; omega
theorem fm_take (hc : ∀ x, (c x).length = s) {m : Nat} (hm : m ≤ l.length) : (l.take m).flatMap c = (l.flatMap c).take (m * s) := by
  have h1 : l.flatMap c = (l.take m).flatMap c ++ (l.drop m).flatMap c := by rw [← List.flatMap_append, List.take_append_drop]
  have h2 : ((l.take m).flatMap c).length = m * s := by rw [fm_len hc, List.length_take, Nat.min_eq_left hm]
  rw [h1, List.take_append_of_le_length (by omega)]
  exact (List.take_of_length_le (by omega)).symm
theorem fm_drop (hc : ∀ x, (c x).length = s) {m : Nat} (hm : m ≤ l.length) : (l.drop m).flatMap c = (l.flatMap c).drop (m * s) := by
  have h1 : l.flatMap c = (l.take m).flatMap c ++ (l.drop m).flatMap c := by rw [← List.flatMap_append, List.take_append_drop]
  have h2 : ((l.take m).flatMap c).length = m * s := by rw [fm_len hc, List.length_take, Nat.min_eq_left hm]
  rw [h1]; exact (List.drop_left' h2).symm
theorem fm_chunk (hc : ∀ x, (c x).length = s) {i : Nat} {x : α} (hx : l[i]? = some x) : ((l.flatMap c).drop (i * s)).take s = c x := by
  refine List.ext_getElem? fun j => ?_
  rw [List.getElem?_take]
  split
  · rename_i hj
    rw [List.getElem?_drop, fm_at hc hx hj]
  · rename_i hj
    rw [List.getElem?_eq_none (by rw [hc]; omega)]
/-- A slice of structs that is read. -/
def RS (P : Program) (h : Heap) (s : Nat) (c : α → List Value) (v : Value) (l : List α) : Prop := Rd P h s v l.length (l.flatMap c)
theorem RS.keeps (R : RS P h s c v l) (K : Keeps h h') : RS P h' s c v l := Rd.keeps R K
theorem RS.len (R : RS P h s c v l) {t e : TypeId} (ht : P.underlying t = some (.slice e)) : abuiltin P .len #[t] #[v] = some (.int .i64 l.length) := Rd.len R ht
theorem RS.fld (R : RS P h s c v l) (hc : ∀ x, (c x).length = s) {t : TypeId} {d : TypeDesc} (ht : P.underlying t = some d) (hd : isAggD d = false) {i j : Nat} {x : α} (hx : l[i]? = some x) (hj : j < s) :
    aload P h t ⟨(eltA v s i).block, (eltA v s i).off + j, none⟩ = (c x)[j]? :=
  (Rd.at R ht hd (List.getElem?_eq_some_iff.1 hx).1 hj).trans (fm_at hc hx hj)
theorem RS.agg (R : RS P h s c v l) (hc : ∀ x, (c x).length = s) {t : TypeId} {d : TypeDesc} (ht : P.underlying t = some d) (hd : isAggD d = true) (hs : asz P t = some s) {i : Nat} {x : α} (hx : l[i]? = some x) :
    aload P h t (eltA v s i) = some (.agg (c x).toArray) := by
  have hi := (List.getElem?_eq_some_iff.1 hx).1
  obtain ⟨h1, h2⟩ := R
  have hch := fm_chunk hc hx
  have hle : (i + 1) * s ≤ l.length * s := Nat.mul_le_mul_right s hi
  rw [Nat.add_mul] at hle
  rcases h2 with ⟨e, _⟩ | ⟨b, o, cp, k, rfl, hlt, hk, hlv, ha, hol, hcc⟩
  · omega
  · have hle2 : o + i * s + s ≤ k.cells.length := by omega
    have hdd : ((k.cells.drop (o + i * s)).take s) = c x := by
      rw [← hch, ← hcc]
      refine List.ext_getElem? fun j => ?_
      simp only [List.getElem?_take, List.getElem?_drop]
      split
      · rw [if_pos (by omega)]; congr 1; omega
      · rfl
    simp only [aload, eltA, hk, hlv, if_true, ht, hd, hs, hle2, hdd]
theorem RS.part (R : RS P h s c v l) (hc : ∀ x, (c x).length = s) {L H : Nat} (h1 : L ≤ H) (h2 : H ≤ l.length) : RS P h s c (sliceV v s L H) ((l.drop L).take (H - L)) := by
  have := Rd.part R h1 h2
  unfold RS
  rw [List.length_take, List.length_drop, Nat.min_eq_left (by omega), fm_take hc (by rw [List.length_drop]; omega), fm_drop hc (by omega)]
  exact this
/-- A slice of structs that may grow. -/
def OS (P : Program) (B : Nat) (h : Heap) (s : Nat) (c : α → List Value) (v : Value) (l : List α) : Prop := Own P B h s v l.length (l.flatMap c)
theorem OS.rs {B : Nat} (O : OS P B h s c v l) : RS P h s c v l := O.1
theorem OS.nil {B : Nat} : OS P B h s c (.slice none 0 0) ([] : List α) := Own.nil0
theorem OS.keeps {B : Nat} (O : OS P B h s c v l) (K : Keeps h h') : OS P B h' s c v l := Own.keeps O K
theorem OS.append1 {B m : Nat} (H : Wf h) (hB : B ≤ h.size) (O : OS P B h s c v l) {t e : TypeId} {i : TypeInfo} (ht : P.underlying t = some (.slice e)) (hi : P.info? e = some i) (hz : zeroFits i = true ∧ i.bytes = m ∧ i.size = s) (hs : 0 < s) (hm : 0 < m)
    (x : α) (hx : (c x).length = s) (hbig : (l.length + 1) * m ≤ 140737488355328) :
    ∃ v' h', aappend P (h.new e (c x)) t t v (.slice (some ⟨h.size, 0, none⟩) 1 2) = some (v', h') ∧ OS P B h' s c v' (l ++ [x]) ∧ Ch (fun b => blkOf v = some b ∧ B ≤ b) h h' ∧ Reads h h' ∧ v' = .slice (some ⟨h.size + 1, 0, none⟩) (l.length + 1) 0 := by
  obtain ⟨v', h', e1, O', C, R, ev, _⟩ := Own.append1 H hB O ht hi hz hs hm (xs := c x) hx hbig
  refine ⟨v', h', e1, ?_, C, R, ev⟩
  unfold OS
  rw [List.length_append, List.flatMap_append]
  simpa using O'
end
end Go.Proofs.YthmpaddhmgnkbaaDoor.Am
end
section
/- The frame Am, a text beside the others: rows that may be written or grown, whatever room lies behind them; what becomes of their memory's other rows. Nothing of a program stands here. -/
set_option linter.unusedVariables false
set_option linter.unusedSimpArgs false
namespace Go.Proofs.YthmpaddhmgnkbaaDoor.Am
open Go Go.RowKit
/-- What lies in a row's memory. -/
def FamV (h : Heap) (v : Value) (x : Nat) : Prop := ∃ b, blkOf v = some b ∧ FamOf h b x
/-- A row that is read, and may be written (it was not handed in). -/
def OwnR (P : Program) (h : Heap) (s : Nat) (v : Value) (n : Nat) (cs : List Value) : Prop :=
  Rd P h s v n cs ∧ ∀ b, blkOf v = some b → ∃ k, h.get b = some k ∧ k.ro = false
section
variable {P : Program} {h h' h'' : Heap} {s n m : Nat} {b : Nat} {cs : List Value} {D : Nat → Prop} {v : Value}
theorem OwnR.nil0 : OwnR P h s (.slice none 0 0) 0 [] := ⟨Rd.nil0, fun b e => by cases e⟩
theorem OwnR.keeps (O : OwnR P h s v n cs) (K : Keeps h h') : OwnR P h' s v n cs :=
  ⟨O.1.keeps K, fun b e => by
    obtain ⟨k, h1, h2⟩ := O.2 b e
    exact ⟨k, (K.at (O.1.blk_lt e).1).trans h1, h2⟩⟩
theorem Ch.ownR (C : Ch D h h') (O : OwnR P h s v n cs) (hd : ∀ b, blkOf v = some b → ¬ D b) : OwnR P h' s v n cs :=
  ⟨C.rd O.1 hd, fun b e => by
    obtain ⟨k, h1, h2⟩ := O.2 b e
    exact ⟨k, (C.at (O.1.blk_lt e).1 (hd b e)).trans h1, h2⟩⟩
theorem OwnR.part (O : OwnR P h s v n cs) {L H : Nat} (h1 : L ≤ H) (h2 : H ≤ n) : OwnR P h s (sliceV v s L H) (H - L) ((cs.drop (L * s)).take ((H - L) * s)) :=
  ⟨O.1.part h1 h2, fun b e => O.2 b (by rw [← sliceV_blk (s := s) (L := L) (H := H)]; exact e)⟩
theorem OwnR.new (H : Wf h) {e : TypeId} {c : Nat} {cells : List Value} (he : asz P e = some s) (hl : cells.length = m * s) : OwnR P (h.new e cells) s (.slice (some ⟨h.size, 0, none⟩) m c) m cells :=
  ⟨Rd.new H he hl, fun b e => by cases e; exact ⟨_, new_self, rfl⟩⟩
theorem over_drop_take {xs vs : List Value} {o i N : Nat} (hi : i + vs.length ≤ N) (hN : o + N ≤ xs.length) : ((over xs (o + i) vs).drop o).take N = over ((xs.drop o).take N) i vs := by
  refine List.ext_getElem? fun j => ?_
  rw [List.getElem?_take]
  have hl : i + vs.length ≤ ((xs.drop o).take N).length := by simp only [List.length_take, List.length_drop]; omega
  rw [over_get hl]
  split
  · rename_i hj
    rw [List.getElem?_drop, over_get (by omega)]
    by_cases h1 : i ≤ j ∧ j < i + vs.length
    · rw [if_pos (by omega), if_pos h1]; congr 1; omega
    · rw [if_neg (by omega), if_neg h1, List.getElem?_take, if_pos hj, List.getElem?_drop]
  · rename_i hj
    rw [if_neg (by omega), List.getElem?_eq_none]
    simp only [List.length_take, List.length_drop]; omega
/-- Cells written over a row's. -/
theorem OwnR.put (H : Wf h) (O : OwnR P h s v n cs) {i : Nat} {vs : List Value} {a : Addr} (ha : ∃ a0 c, v = .slice (some a0) n c ∧ a = ⟨a0.block, a0.off + i, none⟩) (hi : i + vs.length ≤ n * s) (h1 : vs.all one = true) :
    ∃ h', aover h a vs = some h' ∧ OwnR P h' s v n (over cs i vs) ∧ Ch (FamV h v) h h' ∧ h'.size = h.size ∧ (∀ b k, h.get b = some k → ∃ k', h'.get b = some k' ∧ k'.fam = k.fam) ∧ h'.obj = h.obj := by
  obtain ⟨a0, c0, rfl, rfl⟩ := ha
  obtain ⟨⟨hlen, h2⟩, h3⟩ := O
  rcases h2 with ⟨_, h | h⟩ | ⟨b, o, c, k, e, hlt, hk, hlv, ha, ho, hc⟩
  · cases h
  · cases h
  · cases e
    obtain ⟨k', g1, g2⟩ := h3 b rfl
    rw [hk] at g1; cases g1
    have hself : (h.store b k (o + i) vs).get b = some { k with cells := over k.cells (o + i) vs } := Heap.put_self
    have hol : (over k.cells (o + i) vs).length = k.cells.length := over_length (by omega)
    refine ⟨h.store b k (o + i) vs, ?_, ⟨⟨?_, .inr ⟨b, o, c0, _, rfl, hlt, hself, hlv, ha, by rw [hol]; exact ho, ?_⟩⟩, fun x e => by cases e; exact ⟨_, hself, g2⟩⟩, (store_ch H hk).mono fun x hx => ⟨b, rfl, hx⟩, rfl, fun x kx hx => ?_, rfl⟩
    · simp only [aover, hk]; rw [if_pos ⟨hlv, g2, by omega, h1⟩]
    · rw [over_length (by omega)]; exact hlen
    · rw [over_drop_take hi ho, hc]
    · by_cases e : x = b
      · subst e; rw [hk] at hx; cases hx; exact ⟨_, hself, rfl⟩
      · refine ⟨Blk.killed k.fam kx, ?_, killed_fam⟩
        show (h.store b k (o + i) vs).get x = _
        simp only [Heap.store]; rw [Heap.put_ne e, kill_get, hx]; rfl
theorem storeV_over {t : TypeId} {a : Addr} {w : Value} (ht : asz P t = some w.cells.size) : storeV P h t (.pointer (some a)) w = (aover h a w.cells.toList).map fun h' => (undef, h') := by
  simp only [storeV, astore, aover]
  cases h.get a.block with
  | none => rfl
  | some k =>
    simp only [ht, true_and, Array.length_toList, Array.all_toList]
    by_cases hc : k.live = true ∧ k.ro = false ∧ a.off + w.cells.size ≤ k.cells.length ∧ w.cells.all one = true
    · rw [if_pos hc]; rfl
    · rw [if_neg hc]; rfl
/-- An element of a row that is written. -/
theorem OwnR.storeA (H : Wf h) (O : OwnR P h s v n cs) {t : TypeId} {w : Value} {i : Nat} (ht : asz P t = some s) (hw : w.cells.size = s) (h1 : w.cells.all one = true) (hi : i < n) :
    ∃ h', storeV P h t (.pointer (some (eltA v s i))) w = some (undef, h') ∧ OwnR P h' s v n (over cs (i * s) w.cells.toList) ∧ Ch (FamV h v) h h' ∧ h'.size = h.size ∧ (∀ b k, h.get b = some k → ∃ k', h'.get b = some k' ∧ k'.fam = k.fam) ∧ h'.obj = h.obj := by
  have hv : ∃ a0 c, v = .slice (some a0) n c := by
    obtain ⟨⟨_, ⟨h0, _⟩ | ⟨b, o, c, k, e, _⟩⟩, _⟩ := O
    · omega
    · exact ⟨_, _, e⟩
  obtain ⟨a0, c, rfl⟩ := hv
  have hin : i * s + s ≤ n * s := by
    have : (i + 1) * s ≤ n * s := Nat.mul_le_mul_right s (by omega)
    rw [Nat.add_mul] at this; omega
  obtain ⟨h', e1, e2⟩ := O.put H (i := i * s) (vs := w.cells.toList) (a := eltA (.slice (some a0) n c) s i) ⟨a0, c, rfl, rfl⟩ (by simp only [Array.length_toList, hw]; exact hin) (by rw [Array.all_toList]; exact h1)
  refine ⟨h', ?_, e2⟩
  rw [storeV_over (by rw [hw]; exact ht), e1]; rfl
theorem grow_ch (H : Wf h) {k : Blk} (hk : h.get b = some k) {o c : Nat} {news : List Value} : Ch (FamOf h b) h (h.grow b k o c news) ∧ (h.grow b k o c news).get h.size = some ⟨(k.cells.drop o).take c ++ news, k.elem, k.fam, true, true, false⟩ ∧ (h.grow b k o c news).size = h.size + 1 := by
  have hb := H.lt hk
  have hf := H.2 b k hk
  unfold Heap.grow
  by_cases ht : k.tail = true ∧ o + c = k.cells.length
  · rw [if_pos ht]
    have hwf : Wf ((h.put b { k with tail := false }).push ⟨(k.cells.drop o).take c ++ news, k.elem, k.fam, true, true, false⟩) := Wf.push (Wf.put (k := { k with tail := false }) H hk rfl) (by show k.fam ≤ h.size; omega)
    have hne : ∀ x, x < h.size → x ≠ b → ((h.put b { k with tail := false }).push ⟨(k.cells.drop o).take c ++ news, k.elem, k.fam, true, true, false⟩).get x = h.get x := fun x hx hxb => by
      rw [Heap.push_ne (by show x ≠ h.size; omega), Heap.put_ne hxb]
    have hself : ((h.put b { k with tail := false }).push ⟨(k.cells.drop o).take c ++ news, k.elem, k.fam, true, true, false⟩).get h.size = some ⟨(k.cells.drop o).take c ++ news, k.elem, k.fam, true, true, false⟩ := Heap.push_self
    refine ⟨⟨hwf, Nat.le_succ _, fun x hx hd => hne x hx fun e => hd (by subst e; exact ⟨k, k, hk, hk, rfl⟩), fun x kx hx hkx => .inr ?_, fun x kx hx hkx => ?_, fun _ _ _ => rfl⟩, hself, rfl⟩
    · have h1 : x < h.size + 1 := hwf.lt hkx
      have hxe : x = h.size := by omega
      subst hxe
      rw [hself] at hkx; cases hkx
      exact ⟨b, k, ⟨k, k, hk, hk, rfl⟩, hk, rfl⟩
    · by_cases e : x = b
      · subst e
        rw [Heap.push_ne (by show x ≠ h.size; omega), Heap.put_self] at hkx; cases hkx
        exact ⟨k, hk, rfl⟩
      · rw [hne x hx e] at hkx; exact ⟨kx, hkx, rfl⟩
  · rw [if_neg ht]
    have hwf : Wf ((h.kill k.fam).push ⟨(k.cells.drop o).take c ++ news, k.elem, k.fam, true, true, false⟩) := Wf.push (Wf.kill H k.fam) (by show k.fam ≤ h.size; omega)
    have hne : ∀ x, x < h.size → ((h.kill k.fam).push ⟨(k.cells.drop o).take c ++ news, k.elem, k.fam, true, true, false⟩).get x = (h.get x).map (Blk.killed k.fam) := fun x hx => by
      rw [Heap.push_ne (by show x ≠ h.size; omega), kill_get]
    have hself : ((h.kill k.fam).push ⟨(k.cells.drop o).take c ++ news, k.elem, k.fam, true, true, false⟩).get h.size = some ⟨(k.cells.drop o).take c ++ news, k.elem, k.fam, true, true, false⟩ := Heap.push_self
    refine ⟨⟨hwf, Nat.le_succ _, fun x hx hd => ?_, fun x kx hx hkx => .inr ?_, fun x kx hx hkx => ?_, fun _ _ _ => rfl⟩, hself, rfl⟩
    · rw [hne x hx]
      cases hg : h.get x with
      | none => rfl
      | some k' => simp only [Option.map_some]; rw [killed_ne fun e => hd ⟨k', k, hg, hk, e⟩]
    · have h1 : x < h.size + 1 := hwf.lt hkx
      have hxe : x = h.size := by omega
      subst hxe
      rw [hself] at hkx; cases hkx
      exact ⟨b, k, ⟨k, k, hk, hk, rfl⟩, hk, rfl⟩
    · rw [hne x hx, Option.map_eq_some_iff] at hkx
      obtain ⟨k0, g1, rfl⟩ := hkx
      exact ⟨k0, g1, killed_fam⟩
/-- An append to a row, wherever it ends in its memory. -/
theorem OwnR.append (H : Wf h) (O : OwnR P h s v n cs) {t t2 e : TypeId} {d2 : TypeDesc} {i : TypeInfo} (ht : P.underlying t = some (.slice e)) (ht2 : P.underlying t2 = some d2) (hd2 : isRowD d2 = true)
    (hi : P.info? e = some i) (hz : zeroFits i = true) (hb : 0 < i.bytes) (hs : i.size = s) {x : Value} {m : Nat} {news : List Value} (hx : anews h s x = some (m, news)) (hm : 0 < m) (hnl : news.length = m * s) (hbig : (n + m) * i.bytes ≤ 140737488355328) :
    ∃ h', aappend P h t t2 v x = some (.slice (some ⟨h.size, 0, none⟩) (n + m) 0, h') ∧ OwnR P h' s (.slice (some ⟨h.size, 0, none⟩) (n + m) 0) (n + m) (cs ++ news) ∧ h'.size = h.size + 1 ∧ Ch (FamV h v) h h' ∧
      (∃ k, h'.get h.size = some k ∧ k.ro = false ∧ (k.fam = h.size ∨ ∃ b k', blkOf v = some b ∧ h.get b = some k' ∧ k.fam = k'.fam)) ∧ Own P h.size h' s (.slice (some ⟨h.size, 0, none⟩) (n + m) 0) (n + m) (cs ++ news) := by
  have hm0 : m ≠ 0 := by omega
  have hae : asz P e = some s := by simp [asz, hi, hs]
  obtain ⟨⟨h1, h2⟩, h3⟩ := O
  have hlen : (cs ++ news).length = (n + m) * s := by simp [h1, hnl, Nat.add_mul]
  rcases h2 with ⟨rfl, hv⟩ | ⟨b, o, c, k, rfl, hlt, hk, hlv, ha, ho, hc⟩
  · have hcs : cs = [] := by simpa using h1
    subst hcs
    simp only [Nat.zero_add, List.nil_append] at hbig ⊢
    refine ⟨h.new e news, ?_, OwnR.new H hae hnl, rfl, Ch.mono (Keeps.new H e news) (fun _ e => e.elim), ⟨_, new_self, rfl, .inl rfl⟩, Own.new H (Nat.le_refl _) hae hnl⟩
    rcases hv with rfl | rfl <;> simp [aappend, ht, ht2, hi, hd2, hb, hz, hs, hx, hm0, hbig]
  · obtain ⟨k', g1, g2⟩ := h3 b rfl
    rw [hk] at g1; cases g1
    by_cases hex : c = n + 1
    · refine ⟨h.new e ((k.cells.drop o).take (n * s) ++ news), ?_, ?_, rfl, Ch.mono (Keeps.new H e _) (fun _ e => e.elim), ⟨_, new_self, rfl, .inl rfl⟩, ?_⟩
      · simp only [aappend, ht, ht2, hi, hd2, hb, hz, hs, hx, hm0, if_false, hk, hlv, ho, ha, hbig, hex, if_true, true_and, and_self]
      · rw [hc]; exact OwnR.new H hae hlen
      · rw [hc]; exact Own.new H (Nat.le_refl _) hae hlen
    · obtain ⟨C, q1, q2⟩ := grow_ch H hk (o := o) (c := n * s) (news := news)
      have hrd : Rd P (h.grow b k o (n * s) news) s (.slice (some ⟨h.size, 0, none⟩) (n + m) 0) (n + m) (cs ++ news) := ⟨hlen, .inr ⟨h.size, 0, 0, _, rfl, by rw [q2]; exact Nat.lt_succ_self _, q1, rfl, ha, by rw [hc]; simp only [hlen]; omega, by rw [hc, List.drop_zero, ← hlen]; exact List.take_length⟩⟩
      refine ⟨h.grow b k o (n * s) news, ?_, ⟨hrd, fun x e => by cases e; exact ⟨_, q1, rfl⟩⟩, q2, C.mono fun x hx => ⟨b, rfl, hx⟩, ⟨_, q1, rfl, .inr ⟨b, k, rfl, hk, rfl⟩⟩, hrd, .inr (.inr ⟨h.size, 0, 0, _, rfl, Nat.le_refl _, q1, rfl, rfl, by rw [hc]; simp only [hlen]; omega, by rw [q2]; exact Nat.lt_succ_self _⟩)⟩
      simp only [aappend, ht, ht2, hi, hd2, hb, hz, hs, hx, hm0, if_false, hk, hlv, ho, ha, hbig, hex, g2, if_true, true_and, and_self]
theorem OwnR.append1 (H : Wf h) (O : OwnR P h s v n cs) {t e : TypeId} {i : TypeInfo} (ht : P.underlying t = some (.slice e))
    (hi : P.info? e = some i) (hz : zeroFits i = true ∧ i.bytes = m ∧ i.size = s) (hm : 0 < m) {xs : List Value} (hx : xs.length = s) (hbig : (n + 1) * m ≤ 140737488355328) :
    ∃ h', aappend P (h.new e xs) t t v (.slice (some ⟨h.size, 0, none⟩) 1 2) = some (.slice (some ⟨h.size + 1, 0, none⟩) (n + 1) 0, h') ∧ OwnR P h' s (.slice (some ⟨h.size + 1, 0, none⟩) (n + 1) 0) (n + 1) (cs ++ xs) ∧ h'.size = h.size + 2 ∧ Ch (FamV h v) h h' ∧
      (∃ k, h'.get (h.size + 1) = some k ∧ k.ro = false ∧ (k.fam = h.size + 1 ∨ ∃ b k', blkOf v = some b ∧ h.get b = some k' ∧ k.fam = k'.fam)) ∧ Own P (h.size + 1) h' s (.slice (some ⟨h.size + 1, 0, none⟩) (n + 1) 0) (n + 1) (cs ++ xs) := by
  obtain ⟨hz, rfl, rfl⟩ := hz
  have K := Keeps.new H e xs
  have O1 := O.keeps K
  have hae : asz P e = some i.size := by simp [asz, hi]
  have hxn : anews (h.new e xs) i.size (.slice (some ⟨h.size, 0, none⟩) 1 2) = some (1, xs) := by
    simp only [anews, new_self]
    rw [if_pos (by simp [hx])]
    simp [← hx]
  obtain ⟨h', e1, O2, z, C, ⟨k, g1, g2, g3⟩, OO⟩ := O1.append (Ch.wf K) ht ht rfl hi hz hm rfl hxn (by omega) (by omega) hbig
  rw [new_size] at e1 O2 g1 z g3 OO
  refine ⟨h', e1, O2, z, ?_, ⟨k, g1, g2, g3.imp id fun ⟨b, k', q1, q2, q3⟩ => ⟨b, k', q1, (K.at (O.1.blk_lt q1).1).symm.trans q2, q3⟩⟩, OO⟩
  refine K.ch (C.mono (D' := FamV h v) ?_) ?_
  · rintro x ⟨b, hb, k1, k2, q1, q2, q3⟩
    have hbl := (O.1.blk_lt hb).1
    rw [K.at hbl] at q2
    refine ⟨b, hb, k1, k2, ?_, q2, q3⟩
    have hxl : x < h.size := by
      rcases Nat.lt_or_ge x h.size with g | g
      · exact g
      · have hxe : x = h.size := by have := (Ch.wf K).lt q1; rw [new_size] at this; omega
        subst hxe
        rw [new_self] at q1; cases q1
        have := H.2 b k2 q2
        simp only at q3; omega
    rw [← K.at hxl]; exact q1
  · rintro x ⟨b, hb, k1, k2, q1, q2, q3⟩; exact H.lt q1
theorem Rd.cell {P : Program} {h : Heap} {s n : Nat} {v : Value} {cs : List Value} (R : Rd P h s v n cs) (h0 : 0 < n) : ∃ a c, v = .slice (some a) n c := by
  obtain ⟨_, ⟨q, _⟩ | ⟨b, o, c, k, e, _⟩⟩ := R
  · omega
  · exact ⟨_, _, e⟩
/-- A row's end that is wiped. -/
theorem OwnR.clear (H : Wf h) (O : OwnR P h s v n cs) {t e : TypeId} {z : Value} (ht : P.underlying t = some (.slice e)) (hz : azero P e = some z) (hzs : z.cells.size = s) (hz1 : z.cells.all one = true) {i : Nat} (hi : i ≤ n) :
    ∃ h' cs', aclear P h t (sliceV v s i n) = some (undef, h') ∧ OwnR P h' s v n cs' ∧ cs'.take (i * s) = cs.take (i * s) ∧ Ch (FamV h v) h h' ∧ h'.size = h.size ∧ (∀ b k, h.get b = some k → ∃ k', h'.get b = some k' ∧ k'.fam = k.fam) ∧ h'.obj = h.obj := by
  have triv : ∃ h' cs', some (undef, h) = some (undef, h') ∧ OwnR P h' s v n cs' ∧ cs'.take (i * s) = cs.take (i * s) ∧ Ch (FamV h v) h h' ∧ h'.size = h.size ∧ (∀ b k, h.get b = some k → ∃ k', h'.get b = some k' ∧ k'.fam = k.fam) ∧ h'.obj = h.obj :=
    ⟨h, cs, rfl, O, rfl, Ch.mono (Keeps.refl H) (fun _ e => e.elim), rfl, fun b k hk => ⟨k, hk, rfl⟩, rfl⟩
  by_cases hn : n = 0
  · subst hn
    obtain rfl : i = 0 := by omega
    obtain ⟨⟨_, ⟨_, rfl | rfl⟩ | ⟨b, o, c, k, rfl, _⟩⟩, _⟩ := O
    · simpa [aclear, ht, sliceV] using triv
    · simpa [aclear, ht, sliceV] using triv
    · simpa [aclear, ht, sliceV] using triv
  · obtain ⟨a, c, rfl⟩ := O.1.cell (by omega)
    by_cases hin : i = n
    · subst hin
      simpa [aclear, ht, sliceV] using triv
    · have hlen := O.1.1
      have hzl : (Builtin.zeroCells z.cells (n - i)).size = (n - i) * s := by rw [zeros_size, hzs]
      have hmul : i * s + (n - i) * s = n * s := by rw [← Nat.add_mul]; congr 1; omega
      have hall : (Builtin.zeroCells z.cells (n - i)).toList.all one = true := by
        rw [Array.all_toList, Array.all_eq_true']
        intro x hx
        simp only [Builtin.zeroCells, Array.mem_map, Array.mem_range] at hx
        obtain ⟨q, hq, rfl⟩ := hx
        have hpos : 0 < z.cells.size := by
          rcases Nat.eq_zero_or_pos z.cells.size with h | h
          · rw [h] at hq; simp at hq
          · exact h
        rw [getElem!_pos z.cells _ (Nat.mod_lt q hpos)]
        exact (Array.all_eq_true'.1 hz1) _ (Array.getElem_mem _)
      obtain ⟨h', e1, e2, e3⟩ := O.put H (i := i * s) (vs := (Builtin.zeroCells z.cells (n - i)).toList) (a := ⟨a.block, a.off + i * s, none⟩) ⟨a, c, rfl, rfl⟩ (by rw [Array.length_toList, hzl]; omega) hall
      refine ⟨h', _, ?_, e2, ?_, e3⟩
      · simp only [aclear, ht, sliceV]
        rw [if_neg (by omega)]
        simp only [hz, e1]
      · simp only [over]
        rw [List.append_assoc, List.take_append_of_le_length (by simp; omega), List.take_of_length_le (by simp; omega)]
theorem FamV.back (C : Ch D h h') (hlt : ∀ b, blkOf v = some b → b < h.size) {x : Nat} (F : FamV h' v x) : h.size ≤ x ∨ FamV h v x := by
  obtain ⟨b, hb, k1, k2, g1, g2, g3⟩ := F
  rcases Nat.lt_or_ge x h.size with hx | hx
  · obtain ⟨q1, e1, f1⟩ := C.2.2.2.2.1 x k1 hx g1
    obtain ⟨q2, e2, f2⟩ := C.2.2.2.2.1 b k2 (hlt b hb) g2
    exact .inr ⟨b, hb, q1, q2, e1, e2, by rw [← f1, ← f2]; exact g3⟩
  · exact .inl hx
theorem Var.notFam {b : Nat} {cs : List Value} (V : Var h b cs) (hne : blkOf v ≠ some b) : ¬ FamV h v b := by
  rintro ⟨b', hb, k1, k2, g1, g2, g3⟩
  obtain ⟨k, q1, _, _, _, q5, q6⟩ := V
  rw [g1] at q1; cases q1
  by_cases e : b' = b
  · subst e; exact hne hb
  · exact q6 b' k2 e g2 (by rw [← g3, q5])
theorem fm_over {α : Type} {c : α → List Value} (hc : ∀ x, (c x).length = s) {l : List α} {i : Nat} {x : α} (hi : i < l.length) : over (l.flatMap c) (i * s) (c x) = (l.set i x).flatMap c := by
  have hd : i < l.length := hi
  have e1 : l = l.take i ++ l[i] :: l.drop (i + 1) := by rw [← List.drop_eq_getElem_cons hi, List.take_append_drop]
  have hl : (l.take i).length = i := by rw [List.length_take]; omega
  have hA : ((l.take i).flatMap c).length = i * s := by rw [fm_len hc, hl]
  have e2 : l.set i x = l.take i ++ x :: l.drop (i + 1) := by
    conv => lhs; rw [e1]
    rw [List.set_append_right _ _ (by omega), hl, Nat.sub_self]; rfl
  rw [e2]
  conv => lhs; rw [e1]
  simp only [List.flatMap_append, List.flatMap_cons, over]
  rw [List.take_append_of_le_length (by omega), List.take_of_length_le (by omega), hc]
  rw [← hA, ← List.append_assoc ((l.take i).flatMap c) (c l[i]), List.drop_append, List.drop_of_length_le (by simp [hc]), List.length_append, hc]
  simp
end
end Go.Proofs.YthmpaddhmgnkbaaDoor.Am
end
section
/- The frame Am, a text beside the others: memory told by families (what was made together with what); things that own families of their own. Nothing of a program stands here. -/
set_option linter.unusedVariables false
set_option linter.unusedSimpArgs false
namespace Go.Proofs.YthmpaddhmgnkbaaDoor.Am
open Go Go.RowKit
/-- A value's memory is of a family that Fs tells. -/
def Fam (h : Heap) (Fs : Nat → Prop) (v : Value) : Prop := ∀ z k, blkOf v = some z → h.get z = some k → Fs k.fam
/-- The blocks of such families. -/
def Rg (Fs : Nat → Prop) (h : Heap) (x : Nat) : Prop := ∃ k, h.get x = some k ∧ Fs k.fam
section
variable {P : Program} {h h' h'' : Heap} {s n m : Nat} {b x : Nat} {cs : List Value} {D Fs Gs : Nat → Prop} {v : Value}
theorem Rg.back (C : Ch D h h') (F : Rg Fs h' x) : h.size ≤ x ∨ Rg Fs h x := by
  obtain ⟨k, g, f⟩ := F
  rcases Nat.lt_or_ge x h.size with hx | hx
  · obtain ⟨k0, g0, e⟩ := C.2.2.2.2.1 x k hx g
    exact .inr ⟨k0, g0, by rw [← e]; exact f⟩
  · exact .inl hx
theorem Rg.mono (F : Rg Fs h x) (hs : ∀ n, Fs n → Gs n) : Rg Gs h x := by
  obtain ⟨k, g, f⟩ := F
  exact ⟨k, g, hs _ f⟩
theorem Ch.thenR (C1 : Ch (Rg Fs h) h h') (C2 : Ch (Rg Fs h') h' h'') : Ch (Rg Fs h) h h'' := C1.then C2 fun x F => Rg.back C1 F
theorem Keeps.rg (K : Keeps h h') : Ch (Rg Fs h) h h' := Ch.mono K fun _ e => e.elim
theorem FamV.rg (F : Fam h Fs v) {x : Nat} (G : FamV h v x) : Rg Fs h x := by
  obtain ⟨b, hb, k1, k2, g1, g2, e⟩ := G
  exact ⟨k1, g1, by rw [e]; exact F b k2 hb g2⟩
theorem Fam.mono (F : Fam h Fs v) (hs : ∀ n, Fs n → Gs n) : Fam h Gs v := fun z k hz g => hs _ (F z k hz g)
theorem Fam.ch (F : Fam h Fs v) (C : Ch D h h') (hlt : ∀ z, blkOf v = some z → z < h.size) : Fam h' Fs v := fun z k hz g => by
  obtain ⟨k0, g0, e⟩ := C.2.2.2.2.1 z k (hlt z hz) g
  rw [e]; exact F z k0 hz g0
/-- What is new is of a family of its own, or of one that was written to. -/
theorem Fam.fresh (C : Ch (Rg Fs h) h h') (hz : ∀ z, blkOf v = some z → h.size ≤ z) : Fam h' (fun n => Fs n ∨ h.size ≤ n ∧ n < h'.size) v := fun z k hzz g => by
  have hle := (Ch.wf C).2 z k g
  have hlt := (Ch.wf C).lt g
  rcases C.2.2.2.1 z k (hz z hzz) g with h1 | ⟨y, k0, ⟨k1, g1, f1⟩, g0, e⟩
  · exact .inr ⟨h1, by omega⟩
  · rw [g0] at g1; cases g1
    exact .inl (by rw [e]; exact f1)
theorem Fam.freshK (K : Keeps h h') (hz : ∀ z, blkOf v = some z → h.size ≤ z) : Fam h' (fun n => h.size ≤ n ∧ n < h'.size) v := fun z k hzz g => by
  have hle := (Ch.wf K).2 z k g
  have hlt := (Ch.wf K).lt g
  rcases K.2.2.2.1 z k (hz z hzz) g with h1 | ⟨y, k0, e, _⟩
  · exact ⟨h1, by omega⟩
  · exact e.elim
theorem Fam.nil {m c : Nat} : Fam h Fs (.slice none m c) := fun z k e => by cases e
theorem Fam.apart (F : Fam h Fs v) (hd : ∀ n, Fs n → ¬ Gs n) : ∀ z, blkOf v = some z → ¬ Rg Gs h z := fun z hz ⟨k, g, f⟩ => hd _ (F z k hz g) f
theorem Var.fam (V : Var h b cs) : ∃ k, h.get b = some k ∧ k.fam = b := by
  obtain ⟨k, h1, _, _, _, h5, _⟩ := V
  exact ⟨k, h1, h5⟩
theorem Var.rg (V : Var h b cs) (hb : Fs b) : Rg Fs h b := by
  obtain ⟨k, g, e⟩ := V.fam
  exact ⟨k, g, by rw [e]; exact hb⟩
theorem Var.apart (V : Var h b cs) (hb : ¬ Gs b) : ¬ Rg Gs h b := fun ⟨k, g, f⟩ => by
  obtain ⟨k0, g0, e⟩ := V.fam
  rw [g0] at g; cases g
  exact hb (by rw [← e]; exact f)
end
end Go.Proofs.YthmpaddhmgnkbaaDoor.Am
end
section
/- The frame Am, a text beside the others: a region that draws its order, where two operations that change memory may come in either order. Nothing of a program stands here. -/
set_option linter.unusedVariables false
set_option linter.unusedSimpArgs false
namespace Go.Proofs.YthmpaddhmgnkbaaDoor.Am
open Go Go.RowKit
section
variable {P : Program} {w0 w : World} {ρ : Ren} {h h' : Heap} {n : Nat} {tm : Tm} {a : Act} {Q : Exit → Tm → Heap → Prop} {ops : Array Oper} {K : Tm → Heap → Prop}
/-- Either of two, then what follows. -/
def two (P : Program) (ops : Array Oper) (i j : Nat) (π1 π2 : List (Nat × Bool)) (listed : Array Bool) : Bool :=
  Region.ready .any ops listed == [i, j] && orderOk P ops π1 (listed.setIfInBounds i true) && orderOk P ops π2 (listed.setIfInBounds j true)
end
end Go.Proofs.YthmpaddhmgnkbaaDoor.Am
end
section
/- The frame Am, a text beside the others: a region that draws its order, walked along a tree of orders. Nothing of a program stands here. -/
set_option linter.unusedVariables false
set_option linter.unusedSimpArgs false
namespace Go.Proofs.YthmpaddhmgnkbaaDoor.Am
open Go Go.RowKit
inductive OTr where
  | nil
  | cons (i : Nat) (r : Bool) (t : OTr)
  | two (i j : Nat) (a b : OTr)
def OTr.len : OTr → Nat
  | .nil => 0
  | .cons _ _ t => t.len + 1
  | .two _ _ a _ => a.len + 1
def treeOk (P : Program) (ops : Array Oper) : OTr → Array Bool → Bool
  | .nil, listed => (Region.ready .any ops listed).isEmpty
  | .cons i r t, listed => (match ops[i]? with
    | none => false
    | some o => (Region.ready .any ops listed).contains i && (if calmOp P o.op = true then !r && Region.free .any ops listed i else Region.ready .any ops listed == [i] && (r || solo ops i))) && treeOk P ops t (listed.setIfInBounds i true)
  | .two i j a b, listed => Region.ready .any ops listed == [i, j] && a.len == b.len && treeOk P ops a (listed.setIfInBounds i true) && treeOk P ops b (listed.setIfInBounds j true)
def TRo (P : Program) (ops : Array Oper) (Q : Exit → Tm → Heap → Prop) : OTr → Tm → Heap → Prop
  | .nil, tm, h => Q .normal tm h
  | .cons i r t, tm, h => match ops[i]? with
    | none => False
    | some o => aops P ops (dK (TRo P ops Q t) r h Q) [o] tm h
  | .two i j a b, tm, h => (match ops[i]? with
    | none => False
    | some o => aops P ops (dK (TRo P ops Q a) true h Q) [o] tm h) ∧ (match ops[j]? with
    | none => False
    | some o => aops P ops (dK (TRo P ops Q b) true h Q) [o] tm h)
section
variable {P : Program} {w0 w : World} {ρ : Ren} {h h' : Heap} {n : Nat} {tm : Tm} {a : Act} {Q : Exit → Tm → Heap → Prop} {ops : Array Oper}
theorem AAny_of_TRo (hPF : PF Q) : ∀ (π : OTr) (listed : Array Bool) (tm : Tm) (h : Heap), Closed ops listed → treeOk P ops π listed = true → TRo P ops Q π tm h → AAny P ops Q π.len listed tm h := by
  intro π
  induction π with
  | nil => exact fun listed tm h _ h1 h2 => ⟨by simpa [treeOk] using h1, h2⟩
  | cons i r rest ih =>
    intro listed tm h hC h1 h2
    unfold treeOk at h1
    unfold TRo at h2
    cases ho : ops[i]? with
    | none => rw [ho] at h2; exact h2.elim
    | some o =>
      simp only [ho, Bool.and_eq_true] at h1 h2
      obtain ⟨⟨h1, h3⟩, h4⟩ := h1
      have hr : i ∈ Region.ready .any ops listed := by simpa using h1
      split at h3
      · rename_i hcalm
        simp only [Bool.and_eq_true, Bool.not_eq_true'] at h3
        obtain ⟨rfl, h3⟩ := h3
        obtain ⟨hc, he⟩ := calm_none (P := P) hcalm
        have key : ∃ v, aval P ops tm h o = some v ∧ TRo P ops Q rest (aput tm o.dst v) h := by
          have go : stepK P o tm h (aops P ops (dK (TRo P ops Q rest) false h Q) []) (fun v h' => dK (TRo P ops Q rest) false h Q (raised v) tm h') → ∃ v, aop P tm h o.op = some v ∧ TRo P ops Q rest (aput tm o.dst v) h := fun hs => by
            simp only [stepK, stepV, hc, he, calm_np hcalm, calm_na hcalm, calm_ni hcalm] at hs
            split at hs
            · rename_i v hv; exact ⟨v, hv, hs.2⟩
            · exact hs.elim
          unfold aops gate at h2
          unfold aval
          split at h2
          · rename_i hg; simp only [hg]; exact go h2
          · rename_i j want hg
            simp only [hg]
            split at h2
            · rename_i b hb
              simp only [hb]
              by_cases e : b = want
              · rw [if_pos e]; exact go (h2.1 e)
              · rw [if_neg e]; exact ⟨_, rfl, (h2.2 (by cases b <;> cases want <;> simp_all)).2⟩
            · rename_i hb; simp only [hb]; exact ⟨_, rfl, h2.2⟩
        obtain ⟨v, hv, hk⟩ := key
        exact AAny_first ho hc hPF rest.len listed tm h hC (Region.free_spec ho h3) hr hv (ih _ _ _ (hC.set ho hr) h4 hk)
      · simp only [Bool.and_eq_true, beq_iff_eq, Bool.or_eq_true] at h3
        refine ⟨fun h => (by rw [h] at hr; cases hr), fun j hj oj hoj => ?_⟩
        rw [h3.1] at hj
        simp only [List.mem_singleton] at hj
        subst hj
        rw [ho] at hoj; cases hoj
        unfold aops at h2
        refine gate_mono (fun hK => ?_) (fun hK => ih _ _ _ (hC.set ho hr) h4 hK.2) h2
        exact stepV_mono hK (fun u h' hk => ⟨fun hs => hk.1 (h3.2.resolve_right (by rw [hs]; decide)), ih _ _ _ (hC.set ho hr) h4 hk.2⟩) (fun _ _ hx => hx)
  | two i j ta tb iha ihb =>
    intro listed tm h hC h1 h2
    simp only [treeOk, Bool.and_eq_true, beq_iff_eq] at h1
    obtain ⟨⟨⟨hr, hl⟩, ha⟩, hb⟩ := h1
    unfold TRo at h2
    have go : ∀ (x : Nat) (ox : Oper) (t : OTr), (∀ (listed : Array Bool) (tm : Tm) (h : Heap), Closed ops listed → treeOk P ops t listed = true → TRo P ops Q t tm h → AAny P ops Q t.len listed tm h) → ops[x]? = some ox → x ∈ Region.ready .any ops listed → treeOk P ops t (listed.setIfInBounds x true) = true → aops P ops (dK (TRo P ops Q t) true h Q) [ox] tm h →
        AStep P ops (solo ops x) ox tm h (AAny P ops Q t.len (listed.setIfInBounds x true)) (fun v h' => Q (raised v) tm h') := fun x ox t ih hx hm ho hs => by
      unfold aops at hs
      have C' := hC.set hx hm
      refine gate_mono (fun hK => ?_) (fun hK => ih _ _ _ C' ho hK.2) hs
      exact stepV_mono hK (fun u h' hk => ⟨fun _ => hk.1 rfl, ih _ _ _ C' ho hk.2⟩) (fun _ _ hx => hx)
    refine ⟨fun e => (by rw [hr] at e; cases e), fun x hx ox hox => ?_⟩
    rw [hr] at hx
    rcases List.mem_cons.1 hx with rfl | hx
    · rw [hox] at h2
      exact go _ ox ta iha hox (by rw [hr]; simp) ha h2.1
    · obtain rfl := List.mem_singleton.1 hx
      rw [hox] at h2
      have := go _ ox tb ihb hox (by rw [hr]; simp) hb h2.2
      rw [← hl] at this
      exact this
theorem adraw_tree (π : OTr) (hm : P.follows .mixedOrders = true) (hall : opsOk P n ops = true) (hsz : π.len = ops.size) (hor : treeOk P ops π (Array.replicate ops.size false) = true) (hPF : PF Q)
    (H : TRo P ops Q π tm h) : ADraw P n ops Q tm h := fun id ro w0 ρ w a Hr T =>
  wpIn_region_any hm (wpAny_of_AAny hall ops.size _ tm h (by have hC := Closed.init (ops := ops); rw [← hsz] at *; exact AAny_of_TRo hPF π _ tm h hC hor H) w0 ρ _ a ρ a.defers (RenLe.refl _) (DT.refl _ _) (Hr.drawn _) T)
def trK (P : Program) (ops : Array Oper) (Q : Exit → Tm → Heap → Prop) (r : Bool) (π : OTr) (tm : Tm) (h : Heap) (o : Option Oper) : Prop := match o with | none => False | some o => aops P ops (dK (TRo P ops Q π) r h Q) [o] tm h
theorem TRo_nil : TRo P ops Q .nil tm h = Q .normal tm h := propext Iff.rfl
theorem TRo_cons {i : Nat} {r : Bool} {π : OTr} : TRo P ops Q (.cons i r π) tm h = trK P ops Q r π tm h (ops[i]?) := by
  simp only [TRo, trK]
theorem TRo_two {i j : Nat} {s t : OTr} : TRo P ops Q (.two i j s t) tm h = (trK P ops Q true s tm h (ops[i]?) ∧ trK P ops Q true t tm h (ops[j]?)) := by
  simp only [TRo, trK]
theorem trK_some {r : Bool} {π : OTr} {o : Oper} : trK P ops Q r π tm h (some o) = aops P ops (dK (TRo P ops Q π) r h Q) [o] tm h := propext Iff.rfl
end
end Go.Proofs.YthmpaddhmgnkbaaDoor.Am
end
section
/- The frame Am, a text beside the others: a region that draws its order, every order walked. Nothing of a program stands here. -/
set_option linter.unusedVariables false
set_option linter.unusedSimpArgs false
set_option linter.defProp false
namespace Go.Proofs.YthmpaddhmgnkbaaDoor.Am
open Go Go.RowKit
def AAnyE (P : Program) (ops : Array Oper) (Q : Exit → Tm → Heap → Prop) : Nat → Array Bool → Tm → Heap → Prop
  | 0, listed, tm, h => Region.ready .any ops listed = [] ∧ Q .normal tm h
  | fuel + 1, listed, tm, h => (Region.ready .any ops listed = [] → Q .normal tm h) ∧
    ∀ i, i ∈ Region.ready .any ops listed → ∀ o, ops[i]? = some o → AStep P ops true o tm h (AAnyE P ops Q fuel (listed.setIfInBounds i true)) (fun v h' => Q (raised v) tm h')
/-- All orders, as a tree. -/
inductive ETr where
  | nil
  | one (i : Nat) (a : ETr)
  | two (i j : Nat) (a b : ETr)
  | three (i j k : Nat) (a b c : ETr)
def ETr.len : ETr → Nat
  | .nil => 0
  | .one _ a => a.len + 1
  | .two _ _ a _ => a.len + 1
  | .three _ _ _ a _ _ => a.len + 1
def etOk (ops : Array Oper) : ETr → Array Bool → Bool
  | .nil, l => (Region.ready .any ops l).isEmpty
  | .one i a, l => Region.ready .any ops l == [i] && etOk ops a (l.setIfInBounds i true)
  | .two i j a b, l => Region.ready .any ops l == [i, j] && a.len == b.len && etOk ops a (l.setIfInBounds i true) && etOk ops b (l.setIfInBounds j true)
  | .three i j k a b c, l => Region.ready .any ops l == [i, j, k] && a.len == b.len && a.len == c.len && etOk ops a (l.setIfInBounds i true) && etOk ops b (l.setIfInBounds j true) && etOk ops c (l.setIfInBounds k true)
def eK (K : Tm → Heap → Prop) (Q : Exit → Tm → Heap → Prop) : Exit → Tm → Heap → Prop
  | .normal, tm, h => K tm h
  | e, tm, h => Q e tm h
def etK (P : Program) (ops : Array Oper) (K : Tm → Heap → Prop) (Q : Exit → Tm → Heap → Prop) (tm : Tm) (h : Heap) (o : Option Oper) : Prop := match o with | none => False | some o => aops P ops (eK K Q) [o] tm h
def ETo (P : Program) (ops : Array Oper) (Q : Exit → Tm → Heap → Prop) : ETr → Tm → Heap → Prop
  | .nil, tm, h => Q .normal tm h
  | .one i a, tm, h => etK P ops (ETo P ops Q a) Q tm h (ops[i]?)
  | .two i j a b, tm, h => etK P ops (ETo P ops Q a) Q tm h (ops[i]?) ∧ etK P ops (ETo P ops Q b) Q tm h (ops[j]?)
  | .three i j k a b c, tm, h => etK P ops (ETo P ops Q a) Q tm h (ops[i]?) ∧ etK P ops (ETo P ops Q b) Q tm h (ops[j]?) ∧ etK P ops (ETo P ops Q c) Q tm h (ops[k]?)
section
variable {P : Program} {w0 w : World} {ρ : Ren} {h h' : Heap} {n : Nat} {tm : Tm} {a : Act} {Q : Exit → Tm → Heap → Prop} {ops : Array Oper}
theorem etK_step {K : Tm → Heap → Prop} {i : Nat} {o : Oper} (ho : ops[i]? = some o) (H : etK P ops K Q tm h (ops[i]?)) : AStep P ops true o tm h K (fun v h' => Q (raised v) tm h') := by
  rw [ho] at H
  unfold etK aops at H
  exact gate_mono (fun hK => stepV_mono hK (fun u h' hk => ⟨(fun e => by cases e), hk⟩) (fun _ _ hx => hx)) (fun hK => hK) H
theorem AStep.mono {o : Oper} {K K' : Tm → Heap → Prop} {X : Value → Heap → Prop} (hk : ∀ tm h, K tm h → K' tm h) (H : AStep P ops true o tm h K X) : AStep P ops true o tm h K' X :=
  gate_mono (fun hK => stepV_mono hK (fun u h' q => ⟨q.1, hk _ _ q.2⟩) (fun _ _ hx => hx)) (fun hK => hk _ _ hK) H
theorem AAnyE_of_ETo : ∀ (t : ETr) (l : Array Bool) (tm : Tm) (h : Heap), etOk ops t l = true → ETo P ops Q t tm h → AAnyE P ops Q t.len l tm h
  | .nil, l, tm, h, h1, h2 => ⟨by simpa [etOk] using h1, h2⟩
  | .one i a, l, tm, h, h1, h2 => by
    simp only [etOk, Bool.and_eq_true, beq_iff_eq] at h1
    refine ⟨fun e => (by rw [h1.1] at e; cases e), fun x hx o ho => ?_⟩
    rw [h1.1] at hx
    obtain rfl := List.mem_singleton.1 hx
    exact (etK_step ho h2).mono fun tm h => AAnyE_of_ETo a _ tm h h1.2
  | .two i j a b, l, tm, h, h1, h2 => by
    simp only [etOk, Bool.and_eq_true, beq_iff_eq] at h1
    obtain ⟨⟨⟨hr, hl⟩, ha⟩, hb⟩ := h1
    refine ⟨fun e => (by rw [hr] at e; cases e), fun x hx o ho => ?_⟩
    rw [hr] at hx
    simp only [List.mem_cons, List.not_mem_nil, or_false] at hx
    rcases hx with rfl | rfl
    · exact (etK_step ho h2.1).mono fun tm h => AAnyE_of_ETo a _ tm h ha
    · have := (etK_step ho h2.2).mono fun tm h => AAnyE_of_ETo b _ tm h hb
      rw [← hl] at this; exact this
  | .three i j k a b c, l, tm, h, h1, h2 => by
    simp only [etOk, Bool.and_eq_true, beq_iff_eq] at h1
    obtain ⟨⟨⟨⟨⟨hr, hl⟩, hl2⟩, ha⟩, hb⟩, hc⟩ := h1
    refine ⟨fun e => (by rw [hr] at e; cases e), fun x hx o ho => ?_⟩
    rw [hr] at hx
    simp only [List.mem_cons, List.not_mem_nil, or_false] at hx
    rcases hx with rfl | rfl | rfl
    · exact (etK_step ho h2.1).mono fun tm h => AAnyE_of_ETo a _ tm h ha
    · have := (etK_step ho h2.2.1).mono fun tm h => AAnyE_of_ETo b _ tm h hb
      rw [← hl] at this; exact this
    · have := (etK_step ho h2.2.2).mono fun tm h => AAnyE_of_ETo c _ tm h hc
      rw [← hl2] at this; exact this
theorem wpAny_of_AAnyE {ro : Option Nat} (hall : opsOk P n ops = true) : ∀ (fuel : Nat) (listed : Array Bool) (tm : Tm) (h : Heap), AAnyE P ops Q fuel listed tm h →
    ∀ w0 ρ w a ρ0 ds, RenLe ρ0 ρ → DT ρ0 ρ ds a.defers → HRel P w0 ρ h w → TR ρ n tm a → wpAnyIn (FO ro) 0 P .any ops (Post P w0 ρ0 n Q ds) fuel listed a w := by
  intro fuel
  induction fuel with
  | zero => exact fun listed tm h hA w0 ρ w a ρ0 ds hρ D H T => ⟨hA.1, _, tm, h, ρ, hA.2, .inl ⟨rfl, rfl⟩, hρ, H, T, D⟩
  | succ fuel ih =>
    intro listed tm h hA w0 ρ w a ρ0 ds hρ D H T
    refine ⟨fun hr => ⟨_, tm, h, ρ, hA.1 hr, .inl ⟨rfl, rfl⟩, hρ, H, T, D⟩, fun i hi => ?_⟩
    obtain ⟨_, o, ho, _⟩ := mem_ready.1 hi
    have hS := hA.2 i hi o ho
    have hm : o ∈ ops.toList := by simpa using Array.mem_of_getElem? ho
    have hoo := (List.all_eq_true.1 hall) o hm
    simp only [Bool.and_eq_true] at hoo
    have hok : ∀ x, x ∈ o.op.operands → oprOk P n x = true := fun x hx => (List.all_eq_true.1 hoo.2) x (by simpa using hx)
    have step : stepK P o tm h (fun tm' h' => (true = false → Reads h h') ∧ AAnyE P ops Q fuel (listed.setIfInBounds i true) tm' h') (fun v h' => Q (raised v) tm h') →
        o.wpIn (FO ro) 0 P a w (wpAnyIn (FO ro) 0 P .any ops (Post P w0 ρ0 n Q ds) fuel (listed.setIfInBounds i true)) (Post P w0 ρ0 n Q ds) := fun hs =>
      stepK_sound hs H T hok (fun tm' h' ρ' w' a' r H' T' hd hk => ih _ tm' h' hk.2 w0 ρ' w' a' ρ0 ds (hρ.trans r) (by rw [hd]; exact D.mono r) H' T')
        (fun v v' h' ρ' w' r H' hv hk => ⟨raised v, tm, h', ρ', hk, EX.raised hv, hρ.trans r, H', T.mono r, D.mono r⟩)
    have skip : AAnyE P ops Q fuel (listed.setIfInBounds i true) (aput tm o.dst undef) h → wpAnyIn (FO ro) 0 P .any ops (Post P w0 ρ0 n Q ds) fuel (listed.setIfInBounds i true) (a.put o.dst undef) w :=
      fun hk => ih _ _ h hk w0 ρ w _ ρ0 ds hρ (by rw [put_defers]; exact D) H (T.put VR.undef)
    unfold wpOpIn
    simp only [ho]
    unfold AStep gate at hS
    split at hS
    · rename_i hg
      rw [if_pos (by simp [Region.wanted, hg])]
      exact step hS
    · rename_i j want hg
      have hy := yielded_rel hall T j
      split at hS
      · rename_i b hb
        by_cases e : b = want
        · rw [if_pos (by simp [Region.wanted, hg, hy, hb, e])]
          exact step (hS.1 e)
        · rw [if_neg (by simp [Region.wanted, hg, hy, hb, e])]
          exact ⟨FO_about, skip (hS.2 (by cases b <;> cases want <;> simp_all))⟩
      · rename_i hb
        rw [if_neg (by simp [Region.wanted, hg, hy, hb])]
        exact ⟨FO_about, skip hS⟩
theorem adraw_all (t : ETr) (hm : P.follows .mixedOrders = true) (hall : opsOk P n ops = true) (hsz : t.len = ops.size) (hor : etOk ops t (Array.replicate ops.size false) = true) (H : ETo P ops Q t tm h) : ADraw P n ops Q tm h := fun id ro w0 ρ w a Hr T =>
  wpIn_region_any hm (wpAny_of_AAnyE hall ops.size _ tm h (by rw [← hsz] at *; exact AAnyE_of_ETo t _ tm h hor H) w0 ρ _ a ρ a.defers (RenLe.refl _) (DT.refl _ _) (Hr.drawn _) T)
/-- The same, told by what holds behind it. -/
theorem adraw_mid (M : Tm → Heap → Prop) (t : ETr) (hm : P.follows .mixedOrders = true) (hall : opsOk P n ops = true) (hsz : t.len = ops.size) (hor : etOk ops t (Array.replicate ops.size false) = true)
    (H : ETo P ops (fun e tm h => e = .normal ∧ M tm h) t tm h) (K : ∀ tm h, M tm h → Q .normal tm h) : ADraw P n ops Q tm h := fun id =>
  AWp.mono (adraw_all t hm hall hsz hor H id) fun e tm h q => by rw [q.1]; exact K tm h q.2
theorem ETo_nil : ETo P ops Q .nil tm h = Q .normal tm h := propext Iff.rfl
theorem ETo_one {i : Nat} {t : ETr} : ETo P ops Q (.one i t) tm h = etK P ops (ETo P ops Q t) Q tm h (ops[i]?) := propext Iff.rfl
theorem ETo_two {i j : Nat} {s t : ETr} : ETo P ops Q (.two i j s t) tm h = (etK P ops (ETo P ops Q s) Q tm h (ops[i]?) ∧ etK P ops (ETo P ops Q t) Q tm h (ops[j]?)) := propext Iff.rfl
theorem ETo_three {i j k : Nat} {s t u : ETr} : ETo P ops Q (.three i j k s t u) tm h = (etK P ops (ETo P ops Q s) Q tm h (ops[i]?) ∧ etK P ops (ETo P ops Q t) Q tm h (ops[j]?) ∧ etK P ops (ETo P ops Q u) Q tm h (ops[k]?)) := propext Iff.rfl
theorem etK_some {K : Tm → Heap → Prop} {o : Oper} : etK P ops K Q tm h (some o) = aops P ops (eK K Q) [o] tm h := propext Iff.rfl
theorem eK_normal {K : Tm → Heap → Prop} : eK K Q .normal tm h = K tm h := propext Iff.rfl
theorem eK_raised {K : Tm → Heap → Prop} {v : Value} : eK K Q (raised v) tm h = Q (raised v) tm h := propext Iff.rfl
/-- The equations of such a walk. -/
def we := And.intro @ETo_nil <| And.intro @ETo_one <| And.intro @ETo_two <| And.intro @ETo_three <| And.intro @etK_some <| And.intro @eK_normal <| @eK_raised
end
end Go.Proofs.YthmpaddhmgnkbaaDoor.Am
end
section
/- The frame Am, a text beside the others: a region that draws its order, told by what holds behind any set of its operations. Nothing of a program stands here. -/
set_option linter.unusedVariables false
set_option linter.unusedSimpArgs false
set_option linter.defProp false
namespace Go.Proofs.YthmpaddhmgnkbaaDoor.Am
open Go Go.RowKit
section
variable {P : Program} {w0 w : World} {ρ : Ren} {h h' : Heap} {n : Nat} {tm : Tm} {a : Act} {Q : Exit → Tm → Heap → Prop} {ops : Array Oper}
end
end Go.Proofs.YthmpaddhmgnkbaaDoor.Am
end
