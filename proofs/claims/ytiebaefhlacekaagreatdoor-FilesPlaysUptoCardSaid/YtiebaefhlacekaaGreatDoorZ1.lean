/- The texts of this seat, one behind another (part 1 of 16): the frame (an abstract machine), the contracts of functions, the laws. -/
import Derived.Test.YtiebaefhlacekaaGreatDoorAmKind4
import Derived.Test.YtiebaefhlacekaaGreatDoorAmF
import Derived.Lib.Strings
import Derived.Lib.Slices
import Derived.Lib.Walk
import Derived.Lib.Bytealg
section
/- strings.Contains at a text of one byte: it tells whether the byte is in the string. Conditions: none. -/
set_option linter.unusedSimpArgs false
set_option linter.unusedVariables false
namespace Go.Proofs.YtiebaefhlacekaaGreatDoor.Am
open Go Go.RowKit Go.Proofs.Tryz
set_option maxHeartbeats 1000000 in
set_option maxRecDepth 100000 in
theorem indexByte_calls (s : ByteArray) (c : Int) (w : World) :
    Calls prog 93 #[.string s, .int .u8 c] w fun e w' => e = .returned (.int .i64 (Lib.indexByte s.data.toList c.toNat.toUInt8)) ∧ w' = w := by
  go_enter func93, ntmps93
  go_wp2
  rw [run_callFunc_extern func97 (by kernel_rfl) (by kernel_rfl) (by kernel_rfl) (e := Extern.BytealgIndexByte.indexByte) (by kernel_rfl), Lib.run_indexByteString]
  simp only [Result.andThen]
  rw [Oper.upon_value]
  go_wp2
  go_ret
  exact ⟨rfl, rfl⟩
set_option maxHeartbeats 2000000 in
set_option maxRecDepth 100000 in
theorem liteIndex_calls (s : ByteArray) (c : UInt8) (w : World) :
    Calls prog 84 #[.string s, .string ⟨#[c]⟩] w fun e w' => e = .returned (.int .i64 (Lib.indexByte s.data.toList c)) ∧ w' = w := by
  go_enter func84, ntmps84
  go_wp2_with (go_at_call 93; refine (indexByte_calls _ _ _).mono ?_; rintro e w' ⟨rfl, rfl⟩)
  · have h : ([c] == s.toList) = true := by assumption
    go_ret
    refine ⟨?_, rfl⟩
    have e : s.data.toList = [c] := by rw [← Lib.toList_data]; exact (beq_iff_eq.1 h).symm
    rw [e]
    simp [Lib.indexByte]
  · go_ret
    exact ⟨rfl, rfl⟩
set_option maxHeartbeats 1000000 in
theorem strIndex_calls (s : ByteArray) (c : UInt8) (w : World) :
    Calls prog 61 #[.string s, .string ⟨#[c]⟩] w fun e w' => e = .returned (.int .i64 (Lib.indexByte s.data.toList c)) ∧ w' = w := by
  go_enter func61, ntmps61
  go_wp2_with (go_at_call 84; refine (liteIndex_calls _ _ _).mono ?_; rintro e w' ⟨rfl, rfl⟩)
  go_ret
  exact ⟨rfl, rfl⟩
set_option maxHeartbeats 1000000 in
theorem contains_calls (s : ByteArray) (c : UInt8) (w : World) :
    Calls prog 48 #[.string s, .string ⟨#[c]⟩] w fun e w' => e = .returned (.bool (decide (0 ≤ Lib.indexByte s.data.toList c))) ∧ w' = w := by
  go_enter func48, ntmps48
  go_wp2_with (go_at_call 61; refine (strIndex_calls _ _ _).mono ?_; rintro e w' ⟨rfl, rfl⟩)
  go_ret
  exact ⟨rfl, rfl⟩
theorem AR.two_strings {ρ : Ren} {s t : ByteArray} {args : Array Value} (A : AR ρ #[.string s, .string t] args) : args = #[.string s, .string t] := by
  have h1 := A.1
  obtain ⟨y, hy, hr⟩ := A.get (i := 0) (x := .string s) rfl
  obtain ⟨z, hz, hq⟩ := A.get (i := 1) (x := .string t) rfl
  rw [hr.string_inv] at hy
  rw [hq.string_inv] at hz
  refine Array.ext' ?_
  obtain ⟨l⟩ := args
  match l, h1, hy, hz with
  | [y, z], _, hy, hz => simp at hy hz; simp [hy, hz]
theorem body_contains : hasBody prog 48 = true := by kernel_rfl
theorem call_contains {all : Array Oper} {Q : Exit → Tm → Heap → Prop} {rest : List Oper} {tm : Tm} {h : Heap} {d : Option Tmp} {ty : TypeId} {pos : String} {aft : Array Edge} {args : Array Operand} {ts : Array TypeId} :
    aops prog all Q ({ dst := d, op := .call { callee := .value (.func 48), args := args, argTypes := ts }, type := ty, pos := pos, after := aft, guard := none } :: rest) tm h = ACallsX prog 48 (args.map (ev tm)) h (nextH prog all Q rest tm d) (panicK Q tm) := aops_call body_contains
/-- Its contract, told of abstract memory. -/
theorem contains_ok {s : ByteArray} {c : UInt8} {h : Heap} : ACalls prog 48 #[.string s, .string ⟨#[c]⟩] h (fun y h' => y = .bool (decide (0 ≤ Lib.indexByte s.data.toList c)) ∧ h' = h) := by
  intro w0 ρ w args' Hr A
  obtain rfl := A.two_strings
  refine (contains_calls s c w).mono fun e w' hq => ?_
  obtain ⟨rfl, rfl⟩ := hq
  exact ⟨ρ, h, _, _, RenLe.refl _, Hr, VR.bool _, .inl ⟨rfl, rfl, rfl⟩⟩
end Go.Proofs.YtiebaefhlacekaaGreatDoor.Am
end
