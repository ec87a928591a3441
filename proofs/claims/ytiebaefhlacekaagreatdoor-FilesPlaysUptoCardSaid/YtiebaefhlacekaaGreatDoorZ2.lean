/- The texts of this seat, one behind another (part 2 of 16): the frame (an abstract machine), the contracts of functions, the laws. -/
import Derived.Test.YtiebaefhlacekaaGreatDoorZ1
import Derived.LaidEql
import Derived.Stop.Asserts
import Derived.RowKitTokens
import Derived.WalkKit
section
/- errors.Is at two errors of one integer type: it tells whether they are the same. Conditions: none. -/
set_option linter.unusedSimpArgs false
set_option linter.unusedVariables false
namespace Go.Proofs.YtiebaefhlacekaaGreatDoor.Am
open Go Go.RowKit Go.Proofs.Tryz Go.Extern.Stop Go.Stop Go.Extern
section
variable {P : Program} (w : World)
theorem run_equalIn_iface_int (d : Nat) {ti tn : TypeId} {ms : Array (String × TypeId)} {i : TypeInfo} {k : IntKind} (a b : Int)
    (hi : P.underlying ti = some (.interface ms)) (hn : P.underlying tn = some (.int k)) (hinfo : P.info? tn = some i) (hcomp : i.comparable = true) :
    (Op.equalIn (d + 2) ti (.iface tn (.int k a)) (.iface tn (.int k b))).run P w = .ok (a == b) w := by
  simp [Op.equalIn, run_underlying hi, run_underlying hn, typeInfo, hinfo, hcomp]
theorem run_eql_iface_int {ti tn : TypeId} {ms : Array (String × TypeId)} {i : TypeInfo} {k : IntKind} (a b : Int)
    (hi : P.underlying ti = some (.interface ms)) (hn : P.underlying tn = some (.int k)) (hinfo : P.info? tn = some i) (hcomp : i.comparable = true) :
    (binOp .eql ti (.iface tn (.int k a)) (.iface tn (.int k b))).run P w = .ok (.bool (a == b)) w := by
  simp only [binOp]
  simp [Op.equal, Op.maxDepth, run_equalIn_iface_int w 9998 a b hi hn hinfo hcomp]
end
theorem isTypeOf (v : Value) (w : World) : (Extern.ReflectliteType.typeOf #[.iface 83 v]).run prog w = .ok (.iface 126 (.agg #[.pointer (some ⟨3, 83, none⟩)])) w := by kernel_rfl
def cmpX : Array Value → Sem Value := Extern.ReflectliteType.method fun t => do Go.Extern.Rtype.noPackHeld "Comparable" t; pure (.bool (← typeInfo t).comparable)
theorem isComparable (w : World) : (cmpX #[.agg #[.pointer (some ⟨3, 83, none⟩)]]).run prog w = .ok (.bool true) w := by kernel_rfl
theorem isMethodComparable (v : Value) (w : World) : (Go.method 290 126 v "Comparable").run prog w = .ok (119, v) w := by kernel_rfl
theorem isComp : (prog.info? 83).map (·.comparable) = some true := by kernel_rfl
theorem noIsE (v : Value) (xT : TypeId) (w : World) : (Instr.typeAssert (.iface 83 v) xT 128 true).run prog w = .ok (.tuple #[.nilIface, .bool false]) w := run_typeAssert_lacksB underlying128 (by kernel_rfl) (by kernel_rfl) v xT w
theorem noUnwrapE (v : Value) (xT : TypeId) (w : World) : (Instr.typeAssert (.iface 83 v) xT 131 true).run prog w = .ok (.tuple #[.nilIface, .bool false]) w := run_typeAssert_lacksB underlying131 (by kernel_rfl) (by kernel_rfl) v xT w
theorem noUnwrapsE (v : Value) (xT : TypeId) (w : World) : (Instr.typeAssert (.iface 83 v) xT 133 true).run prog w = .ok (.tuple #[.nilIface, .bool false]) w := run_typeAssert_lacksB underlying133 (by kernel_rfl) (by kernel_rfl) v xT w
set_option maxHeartbeats 4000000 in
set_option maxRecDepth 100000 in
theorem is_calls (a b : Int) (w : World) :
    Calls prog 40 #[.iface 83 (.int .i64 a), .iface 83 (.int .i64 b)] w fun e w' => e = .returned (.bool (a == b)) ∧ w' = w := by
  obtain ⟨i, hi, hcmp⟩ := Option.map_eq_some_iff.1 isComp
  have h8 := @run_callFunc_extern prog 52 _ Extern.ReflectliteType.typeOf func52 (by kernel_rfl) (by kernel_rfl) (by kernel_rfl) (by kernel_rfl)
  have h32 := @run_callFunc_extern prog 119 _ cmpX func119 (by kernel_rfl) (by kernel_rfl) (by kernel_rfl) (by kernel_rfl)
  have tT := isTypeOf
  have cT := isComparable
  have mR := isMethodComparable
  have nE := noIsE
  have uE := noUnwrapE
  have vE := noUnwrapsE
  have heq := run_eql_iface_int (P := prog) w a b underlying61 underlying83 hi hcmp
  go_enter func40, ntmps40
  go_wp2
  refine wp_loop_rounds 1 ?_
  rw [rounds_succ]
  go_wp2
  all_goals (go_ret; first | exact ⟨rfl, rfl⟩ | exact ⟨by simp_all, rfl⟩)
/-- Its contract, told of abstract memory. -/
theorem AR.two_ifs {ρ : Ren} {t : TypeId} {a b : Int} {args : Array Value} (A : AR ρ #[.iface t (.int .i64 a), .iface t (.int .i64 b)] args) : args = #[.iface t (.int .i64 a), .iface t (.int .i64 b)] := by
  have h1 := A.1
  obtain ⟨y, hy, hr⟩ := A.get (i := 0) (x := .iface t (.int .i64 a)) rfl
  obtain ⟨z, hz, hq⟩ := A.get (i := 1) (x := .iface t (.int .i64 b)) rfl
  obtain ⟨u, rfl, hu⟩ := hr.iface_inv
  obtain ⟨v, rfl, hv⟩ := hq.iface_inv
  rw [hu.int_inv] at hy
  rw [hv.int_inv] at hz
  refine Array.ext' ?_
  obtain ⟨l⟩ := args
  match l, h1, hy, hz with
  | [y, z], _, hy, hz => simp at hy hz; simp [hy, hz]
theorem body_is : hasBody prog 40 = true := by kernel_rfl
theorem call_is {all : Array Oper} {Q : Exit → Tm → Heap → Prop} {rest : List Oper} {tm : Tm} {h : Heap} {d : Option Tmp} {ty : TypeId} {pos : String} {aft : Array Edge} {args : Array Operand} {ts : Array TypeId} :
    aops prog all Q ({ dst := d, op := .call { callee := .value (.func 40), args := args, argTypes := ts }, type := ty, pos := pos, after := aft, guard := none } :: rest) tm h = ACallsX prog 40 (args.map (ev tm)) h (nextH prog all Q rest tm d) (panicK Q tm) := aops_call body_is
theorem is_ok {a b : Int} {h : Heap} : ACalls prog 40 #[.iface 83 (.int .i64 a), .iface 83 (.int .i64 b)] h (fun y h' => y = .bool (decide (a = b)) ∧ h' = h) := by
  intro w0 ρ w args' Hr A
  obtain rfl := A.two_ifs
  refine (is_calls a b w).mono fun e w' hq => ?_
  obtain ⟨rfl, rfl⟩ := hq
  refine ⟨ρ, h, _, _, RenLe.refl _, Hr, VR.bool _, .inl ⟨rfl, ?_, rfl⟩⟩
  rw [Bool.beq_eq_decide_eq]
end Go.Proofs.YtiebaefhlacekaaGreatDoor.Am
end
