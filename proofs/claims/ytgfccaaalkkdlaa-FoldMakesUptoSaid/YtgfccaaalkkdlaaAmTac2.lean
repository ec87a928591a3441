/- The frame Am, a text beside the others: the walk's equations in one hand; what comparisons and sums come to; slices that are read and rows that grow. Nothing of a program stands here. -/
import Derived.Test.YtgfccaaalkkdlaaAmDraw2
import Derived.IntWalk
set_option linter.unusedVariables false
set_option linter.unusedSimpArgs false
set_option linter.defProp false
namespace Go.Proofs.Ytgfccaaalkkdlaa.Am
open Go Go.RowKit

section
variable {P : Program} {n : Nat} {all : Array Oper} {Q : Exit → Tm → Heap → Prop} {rest : List Oper} {tm : Tm} {h : Heap} {t : TypeId} {k : IntKind} {x y : Int}
theorem abin_add : abin P .add t (.int k x) (.int k y) = some (.int k (k.wrap (x + y))) := by simp [abin, aint]
theorem abin_sub : abin P .sub t (.int k x) (.int k y) = some (.int k (k.wrap (x - y))) := by simp [abin, aint]
theorem abin_mul : abin P .mul t (.int k x) (.int k y) = some (.int k (k.wrap (x * y))) := by simp [abin, aint]
theorem abin_quo (hy : y ≠ 0) : abin P .quo t (.int k x) (.int k y) = some (.int k (k.wrap (x.tdiv y))) := by simp [abin, aint, hy]
theorem abin_rem (hy : y ≠ 0) : abin P .rem t (.int k x) (.int k y) = some (.int k (x.tmod y)) := by simp [abin, aint, hy]
theorem abin_and : abin P .and t (.int k x) (.int k y) = some (.int k (bits .and k x y)) := by simp [abin, aint]
theorem abin_or : abin P .or t (.int k x) (.int k y) = some (.int k (bits .or k x y)) := by simp [abin, aint]
theorem abin_xor : abin P .xor t (.int k x) (.int k y) = some (.int k (bits .xor k x y)) := by simp [abin, aint]
theorem abin_andNot : abin P .andNot t (.int k x) (.int k y) = some (.int k (bits .andNot k x y)) := by simp [abin, aint]
theorem abin_eql : abin P .eql t (.int k x) (.int k y) = some (.bool (decide (x = y))) := by by_cases e : x = y <;> simp [abin, aint, e]
theorem abin_neq : abin P .neq t (.int k x) (.int k y) = some (.bool (decide (¬ x = y))) := by by_cases e : x = y <;> simp [abin, aint, e]
theorem abin_lss : abin P .lss t (.int k x) (.int k y) = some (.bool (decide (x < y))) := by simp [abin, aint]
theorem abin_leq : abin P .leq t (.int k x) (.int k y) = some (.bool (decide (x ≤ y))) := by simp [abin, aint]
theorem abin_gtr : abin P .gtr t (.int k x) (.int k y) = some (.bool (decide (y < x))) := by simp [abin, aint]
theorem abin_geq : abin P .geq t (.int k x) (.int k y) = some (.bool (decide (y ≤ x))) := by simp [abin, aint]
theorem abin_streq {a b : ByteArray} : abin P .eql t (.string a) (.string b) = some (.bool (decide (a.toList = b.toList))) := by
  simp only [abin, astr]; congr 2
  by_cases e : a.toList = b.toList <;> simp [e]
theorem abin_strneq {a b : ByteArray} : abin P .neq t (.string a) (.string b) = some (.bool (decide (¬ a.toList = b.toList))) := by
  simp only [abin, astr]; congr 2
  by_cases e : a.toList = b.toList <;> simp [e]
theorem aun_not {b : Bool} : aun .not (.bool b) = some (.bool !b) := rfl
theorem aun_not_dec {p : Prop} [Decidable p] : aun .not (.bool (decide p)) = some (.bool (decide (¬ p))) := by simp [aun]
theorem condK_neg {b : Bool} {A B : Tm → Heap → Prop} : condK (.bool !b) A B tm h = condK (.bool b) B A tm h := by
  cases b <;> simp [condK]
theorem gateO_dec {p : Prop} [Decidable p] {o : Oper} (h1 : p → aops P all Q (o :: rest) tm h) (h2 : ¬ p → aops P all Q rest (aput tm o.dst undef) h) : gateO (some (decide p)) true P all Q o rest tm h :=
  gateO_split (fun h => h1 (of_decide_eq_true h)) (fun h => h2 (of_decide_eq_false h))
theorem gateO_decF {p : Prop} [Decidable p] {o : Oper} (h1 : ¬ p → aops P all Q (o :: rest) tm h) (h2 : p → aops P all Q rest (aput tm o.dst undef) h) : gateO (some (decide p)) false P all Q o rest tm h :=
  gateO_split (fun h => h1 (of_decide_eq_false h)) (fun h => h2 (of_decide_eq_true h))
theorem gateO_boolT {b : Bool} {o : Oper} (h1 : b = true → aops P all Q (o :: rest) tm h) (h2 : b = false → aops P all Q rest (aput tm o.dst undef) h) : gateO (some b) true P all Q o rest tm h := gateO_split h1 h2
theorem gateO_boolF {b : Bool} {o : Oper} (h1 : b = false → aops P all Q (o :: rest) tm h) (h2 : b = true → aops P all Q rest (aput tm o.dst undef) h) : gateO (some b) false P all Q o rest tm h := gateO_split h1 h2
/-- A call whose contract tells its answer and leaves all as it was. -/
theorem ACalls.use_pure {f : FuncId} {args : Array Value} {V : Value} {H' : Heap} {Qr Qp : Value → Heap → Prop} (H : ACalls P f args h (fun v h' => v = V ∧ h' = H')) (h1 : Qr V H') : ACallsX P f args h Qr Qp :=
  H.use fun v h' e => by rw [e.1, e.2]; exact h1
theorem getE_zero {o : Oper} {l : List Oper} : (o :: l).toArray[0]? = some o := by simp
def drK (P : Program) (ops : Array Oper) (Q : Exit → Tm → Heap → Prop) (r : Bool) (π : List (Nat × Bool)) (tm : Tm) (h : Heap) (o : Option Oper) : Prop := match o with | none => False | some o => aops P ops (dK (DR P ops Q π) r h Q) [o] tm h
theorem DR_cons' {ops : Array Oper} {i : Nat} {r : Bool} {π : List (Nat × Bool)} : DR P ops Q ((i, r) :: π) tm h = drK P ops Q r π tm h (ops[i]?) := by
  simp only [DR, drK]
  cases ops[i]? <;> rfl
theorem drK_some {ops : Array Oper} {r : Bool} {π : List (Nat × Bool)} {o : Oper} : drK P ops Q r π tm h (some o) = aops P ops (dK (DR P ops Q π) r h Q) [o] tm h := propext Iff.rfl
def gvalO (o : Option Tmp) (tm : Tm) : Option Bool := match o with | some d => boolOf (tm d) | none => none
theorem gval_def {j : Nat} : gval all tm j = gvalO ((all[j]?).bind (·.dst)) tm := rfl
theorem gvalO_some {d : Nat} : gvalO (some d) tm = boolOf (tm d) := rfl
end
/-- The walk's equations. -/
def wk := And.intro @W_skip <| And.intro @W_scope <| And.intro @W_label <| And.intro @W_seq <| And.intro @W_region <| And.intro @W_draw <| And.intro @W_cond <| And.intro @W_block <| And.intro @W_exit <| And.intro @W_ret <|
  And.intro @thenK_normal <| And.intro @thenK_ret <| And.intro @thenK_exit <| And.intro @thenK_raised <| And.intro @blockK_normal <| And.intro @blockK_ret <| And.intro @blockK_exit <| And.intro @blockK_raised <|
  And.intro @retK_normal <| And.intro @retK_ret <| And.intro @retK_raised <| And.intro @panicK_eq <| And.intro @resOf_one <| And.intro @resOf_cell <| And.intro @resOf_ct <| And.intro @resOf_tc <| And.intro @tupV_some <| And.intro @cellV_ptr <| And.intro @optV_eq <| And.intro @resOf_two <| And.intro @resOf_three <| And.intro @resOf_four <| And.intro @resOf_none <|
  And.intro @ev_tmp <| And.intro @ev_const <| And.intro @ev_func <| And.intro @ev_global <| And.intro @aput_get <| And.intro @aput_none <| And.intro @aops_nil <| And.intro @aops_guard <|
  And.intro @gateO_tt <| And.intro @gateO_ff <| And.intro @gateO_tf <| And.intro @gateO_ft <| And.intro @gateO_none <| And.intro @aops_move <| And.intro @aops_assign <| And.intro @pickV_bool <|
  And.intro @aops_pick <| And.intro @loadV_ptr <| And.intro @aops_load <| And.intro @nilV_ptr <| And.intro @aops_nilCheck <| And.intro @aops_binOp <| And.intro @orV_some <| And.intro @orV_none <| And.intro @aops_unOp <| And.intro @aops_convert <| And.intro @convM_some <| And.intro @convM_none <| And.intro @aops_lookup <| And.intro @aops_mapUpdate <| And.intro @aops_makeMap <| And.intro @aops_clear <| And.intro @aops_copy <| And.intro @aops_delete <|
  And.intro @aops_slice <| And.intro @aops_fieldAddr <| And.intro @aops_field <| And.intro @aops_indexAddr <| And.intro @aops_index <| And.intro @extV_tuple <| And.intro @aops_extract <| And.intro @aops_build <|
  And.intro @aops_makeInterface <| And.intro @aops_panic <| And.intro @aops_assert <| And.intro @raiseV_iface <| And.intro @aops_makeFunc <| And.intro @aops_callv <| And.intro @aops_len <| And.intro @aops_min <| And.intro @aops_max <| And.intro @aops_alloc <| And.intro @aops_box <| And.intro @aops_buildSlice <| And.intro @aops_makeSlice <|
  And.intro @aops_store <| And.intro @aops_append <| And.intro @atm_get <| And.intro @optK_some <| And.intro @optH_some <| And.intro @nextK_eq <| And.intro @nextH_eq <| And.intro @condK_true <| And.intro @condK_false <|
  And.intro @boolOf_bool <| And.intro @boolOf_undef <| And.intro @DR_nil <| And.intro @dK_f <| And.intro @DR_cons' <| And.intro @drK_some <| And.intro @dK_raised <|
  And.intro @abin_add <| And.intro @abin_sub <| And.intro @abin_mul <| And.intro @abin_and <| And.intro @abin_or <| And.intro @abin_xor <| And.intro @abin_andNot <| And.intro @abin_eql <| And.intro @abin_neq <|
  And.intro @abin_lss <| And.intro @abin_leq <| And.intro @abin_gtr <| And.intro @abin_geq <| And.intro @abin_streq <| And.intro @abin_strneq <| And.intro @aun_not_dec <| @aun_not
theorem eqT {p : Prop} [Decidable p] : (true = decide p) = p := by simp
theorem eqF {p : Prop} [Decidable p] : (false = decide p) = (¬ p) := by simp
/-- Lists and options. -/
def wl := And.intro @gval_def <| And.intro @gvalO_some <| And.intro @List.getElem?_toArray.{0} <| And.intro @List.getElem?_cons_zero.{0} <| And.intro @List.getElem?_cons_succ.{0} <| And.intro @Option.bind_some.{0,0} <| And.intro @Option.map_some.{0,0} <| And.intro @Option.map_none.{0,0} <|
  And.intro @List.getD_cons_zero.{0} <| And.intro @List.getD_cons_succ.{0} <| And.intro @if_true.{1} <| And.intro @if_false.{1} <| And.intro decide_true <| And.intro decide_false <| And.intro @List.map_toArray.{0,0} <| And.intro @List.map_cons.{0,0} <| And.intro @List.map_nil.{0,0} <|
  And.intro Bool.not_true <| And.intro Bool.not_false <| And.intro Bool.false_eq_true <| And.intro @Int.toNat_natCast <| And.intro @eq_self.{1} <| @true_and
end Go.Proofs.Ytgfccaaalkkdlaa.Am
