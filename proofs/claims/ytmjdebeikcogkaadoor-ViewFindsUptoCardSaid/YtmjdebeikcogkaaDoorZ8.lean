/- The texts of this seat, one behind another (part 8 of 10): the frame (an abstract machine), the contracts of functions, the laws. -/
import Derived.Test.YtmjdebeikcogkaaDoorZ7
import Derived.Laws.IdiomStrings
section
/- Views: the contract of the law's row: a text's runes. -/
set_option linter.unusedSimpArgs false
set_option linter.unusedVariables false
set_option maxHeartbeats 4000000
set_option maxRecDepth 20000
namespace Go.Proofs.YtmjdebeikcogkaaDoor.Am
open Go Go.RowKit Go.Proofs.Tryd
theorem AR.one_string {ρ : Ren} {s : ByteArray} {args : Array Value} (A : AR ρ #[.string s] args) : args = #[.string s] := by
  have h1 := A.1
  obtain ⟨y, hy, hr⟩ := A.get (i := 0) (x := .string s) rfl
  rw [hr.string_inv] at hy
  refine Array.ext' ?_
  obtain ⟨l⟩ := args
  match l, h1, hy with
  | [y], _, hy => simp at hy; simp [hy]
theorem row_ok {h : Heap} {s : ByteArray} {xs : List Int} (hx : Conv.runesFrom s s.size 0 #[] = (xs.map (Value.int .i32)).toArray) (hn : xs.length ≤ 70368744177664) :
    ACalls prog 31 #[.string s] h (fun y h' => RdI prog h' .i32 y xs ∧ Keeps h h') := by
  refine ACallsX.wf fun H => ?_
  intro w0 ρ w args' Hr A
  obtain rfl := A.one_string
  have hsz : (Conv.runesFrom s s.size 0 #[]).size = xs.length := by rw [hx]; simp
  have hconv := run_runes_of_string (P := prog) w 9 43 21 s underlying9 underlying43 underlying21 (by rw [hsz]; exact hn)
  rw [hsz, hx] at hconv
  generalize hcap : grownCap w xs.length 0 21 = cap at hconv
  have hge : xs.length ≤ cap := by rw [← hcap]; have := grownCap_ge w xs.length 0 21; omega
  go_enter func31, ntmps31
  go_wp2_with (simp only [hconv])
  go_ret
  have hall : ∀ v, v ∈ xs.map (Value.int .i32) → one v = true := fun v hv => by obtain ⟨x, _, rfl⟩ := List.mem_map.1 hv; rfl
  have hAR : AR ρ (xs.map (Value.int .i32)).toArray (xs.map (Value.int .i32)).toArray := ⟨rfl, fun i x y h1 h2 => by
    rw [h1] at h2; cases h2
    simp only [List.getElem?_toArray, List.getElem?_map, Option.map_eq_some_iff] at h1
    obtain ⟨z, _, rfl⟩ := h1
    exact VR.int _ _⟩
  obtain ⟨ρ', r1, r2, r3⟩ := new_rel Hr (e := 21) asz21 hall hAR (Array.replicate (cap - xs.length) (Value.int .i32 0))
  refine ⟨ρ', h.new 21 (xs.map (Value.int .i32)), .slice (some ⟨h.size, 0, none⟩) xs.length 0, .slice (some ⟨w.heap.size, 0, none⟩) xs.length cap, r1, r2.drawn _, ?_, .inl ⟨rfl, ?_, Keeps.new H _ _⟩⟩
  · refine VR.slice ⟨rfl, hge, .inl rfl, .inl ⟨rfl, _, r3, rfl, ?_⟩⟩
    simp only [List.size_toArray, List.length_map, Array.size_replicate]; omega
  · exact Rd.new H asz21 (by simp)
end Go.Proofs.YtmjdebeikcogkaaDoor.Am
end
section
/- Views: the first row and column that are shown, and the rows that are: contracts of view.Top, Left, Shown and of the document's Left, Shown, by walks. -/
set_option linter.unusedSimpArgs false
set_option linter.unusedVariables false
set_option maxHeartbeats 4000000
set_option maxRecDepth 20000
namespace Go.Proofs.YtmjdebeikcogkaaDoor.Am
open Go Go.RowKit Go.Proofs.Tryd
def imax (x y : Int) : Int := if x < y then y else x
def imin (x y : Int) : Int := if y < x then y else x
theorem imax_spec (x y : Int) : x ≤ imax x y ∧ y ≤ imax x y ∧ (imax x y = x ∨ imax x y = y) := by unfold imax; split <;> omega
theorem imin_spec (x y : Int) : imin x y ≤ x ∧ imin x y ≤ y ∧ (imin x y = x ∨ imin x y = y) := by unfold imin; split <;> omega
theorem mxV {k : IntKind} {ts : Array TypeId} {x y : Int} : abuiltin prog .max ts #[.int k x, .int k y] = some (.int k (imax x y)) := abuiltin_max
theorem mnV {k : IntKind} {ts : Array TypeId} {x y : Int} : abuiltin prog .min ts #[.int k x, .int k y] = some (.int k (imin x y)) := abuiltin_min
def topZ (total at_ top height off : Int) : Int :=
  if imax (imin (imax at_ 0) (imax total 1 - 1) - imin (imax off 0) ((imax height 1 - 1).tdiv 2)) 0 < imax top 0 then imax (imin (imax at_ 0) (imax total 1 - 1) - imin (imax off 0) ((imax height 1 - 1).tdiv 2)) 0
  else if imax top 0 + imax height 1 - 1 < imin (imin (imax at_ 0) (imax total 1 - 1) + imin (imax off 0) ((imax height 1 - 1).tdiv 2)) (imax total 1 - 1) then imin (imin (imax at_ 0) (imax total 1 - 1) + imin (imax off 0) ((imax height 1 - 1).tdiv 2)) (imax total 1 - 1) + 1 - imax height 1
  else imax top 0
theorem top_ok {total at_ top height off : Int} {h : Heap} (h1 : total ≤ 2199023255552) (h2 : height ≤ 2199023255552) (h3 : top ≤ 2199023255552) :
    ACalls prog 20 #[.int .i64 total, .int .i64 at_, .int .i64 top, .int .i64 height, .int .i64 off] h (fun y h' => y = .int .i64 (topZ total at_ top height off) ∧ h' = h) := by
  refine acalls_of_W func20 rfl (by kernel_rfl) (by kernel_rfl) (by simp [ntmps20]) ?_
  have T := imax_spec total 1
  have Hh := imax_spec height 1
  have A0 := imax_spec at_ 0
  have O0 := imax_spec off 0
  have TT := imax_spec top 0
  have A1 := imin_spec (imax at_ 0) (imax total 1 - 1)
  have hq : (imax height 1 - 1).tdiv 2 = (imax height 1 - 1) / 2 := Int.tdiv_eq_ediv_of_nonneg (by omega)
  have O1 := imin_spec (imax off 0) ((imax height 1 - 1).tdiv 2)
  have F0 := imax_spec (imin (imax at_ 0) (imax total 1 - 1) - imin (imax off 0) ((imax height 1 - 1).tdiv 2)) 0
  have L0 := imin_spec (imin (imax at_ 0) (imax total 1 - 1) + imin (imax off 0) ((imax height 1 - 1).tdiv 2)) (imax total 1 - 1)
  have wt1 : IntKind.i64.wrap (imax total 1 - 1) = imax total 1 - 1 := IntWalk.i64_in _ (by omega)
  have wt2 : IntKind.i64.wrap (imax height 1 - 1) = imax height 1 - 1 := IntWalk.i64_in _ (by omega)
  have wt3 : IntKind.i64.wrap ((imax height 1 - 1).tdiv 2) = (imax height 1 - 1).tdiv 2 := IntWalk.i64_in _ (by omega)
  have wt4 : IntKind.i64.wrap (imin (imax at_ 0) (imax total 1 - 1) - imin (imax off 0) ((imax height 1 - 1).tdiv 2)) = imin (imax at_ 0) (imax total 1 - 1) - imin (imax off 0) ((imax height 1 - 1).tdiv 2) := IntWalk.i64_in _ (by omega)
  have wt5 : IntKind.i64.wrap (imin (imax at_ 0) (imax total 1 - 1) + imin (imax off 0) ((imax height 1 - 1).tdiv 2)) = imin (imax at_ 0) (imax total 1 - 1) + imin (imax off 0) ((imax height 1 - 1).tdiv 2) := IntWalk.i64_in _ (by omega)
  have h20 : (2 : Int) ≠ 0 := by decide
  unfold topZ
  simp (disch := omega) only [wk, wt, wl, ↓reduceIte, Nat.reduceEqDiff, Nat.reduceAdd, Nat.zero_add, not_false_eq_true, not_true_eq_false, mxV, mnV, wt1, wt2, wt3, wt4, wt5, abin_quo h20]
  by_cases c1 : imax (imin (imax at_ 0) (imax total 1 - 1) - imin (imax off 0) ((imax height 1 - 1).tdiv 2)) 0 < imax top 0
  · have d1 := decide_eq_true c1
    simp (disch := omega) only [wk, wt, wl, ↓reduceIte, Nat.reduceEqDiff, Nat.reduceAdd, Nat.zero_add, not_false_eq_true, not_true_eq_false, d1, if_pos c1]
  · have d1 := decide_eq_false c1
    have wt6 : IntKind.i64.wrap (imax top 0 + imax height 1) = imax top 0 + imax height 1 := IntWalk.i64_in _ (by omega)
    have wt7 : IntKind.i64.wrap (imax top 0 + imax height 1 - 1) = imax top 0 + imax height 1 - 1 := IntWalk.i64_in _ (by omega)
    by_cases c2 : imax top 0 + imax height 1 - 1 < imin (imin (imax at_ 0) (imax total 1 - 1) + imin (imax off 0) ((imax height 1 - 1).tdiv 2)) (imax total 1 - 1)
    · have d2 := decide_eq_true c2
      simp (disch := omega) only [wk, wt, wl, ↓reduceIte, Nat.reduceEqDiff, Nat.reduceAdd, Nat.zero_add, not_false_eq_true, not_true_eq_false, d1, d2, if_neg c1, if_pos c2, wt6, wt7, IntWalk.i64_in]
    · have d2 := decide_eq_false c2
      simp (disch := omega) only [wk, wt, wl, ↓reduceIte, Nat.reduceEqDiff, Nat.reduceAdd, Nat.zero_add, not_false_eq_true, not_true_eq_false, d1, d2, if_neg c1, if_neg c2, wt6, wt7]
def leftZ (at_ width left cols : Int) : Int :=
  if imax cols 1 < imax width 1 ∨ imax at_ 0 < imax left 0 then imax at_ 0 else imax (imax left 0) (imax at_ 0 - (imax cols 1 - imax width 1))
theorem imax_comm (x y : Int) : imax x y = imax y x := by unfold imax; split <;> split <;> omega
theorem left_ok {at_ width left cols : Int} {h : Heap} (h1 : at_ ≤ 9223372036854775807) (h2 : width ≤ 9223372036854775807) (h3 : left ≤ 9223372036854775807) (h4 : cols ≤ 9223372036854775807) :
    ACalls prog 21 #[.int .i64 at_, .int .i64 width, .int .i64 left, .int .i64 cols] h (fun y h' => y = .int .i64 (leftZ at_ width left cols) ∧ h' = h) := by
  refine acalls_of_W func21 rfl (by kernel_rfl) (by kernel_rfl) (by simp [ntmps21]) ?_
  have A := imax_spec at_ 0
  have B := imax_spec left 0
  have C := imax_spec width 1
  have D := imax_spec cols 1
  unfold leftZ
  by_cases c1 : imax cols 1 < imax width 1
  · have d1 := decide_eq_true c1
    simp (disch := omega) only [wk, wt, wl, ↓reduceIte, Nat.reduceEqDiff, Nat.reduceAdd, Nat.zero_add, not_false_eq_true, not_true_eq_false, mxV, d1, if_pos (Or.inl c1 : imax cols 1 < imax width 1 ∨ imax at_ 0 < imax left 0)]
  · have d1 := decide_eq_false c1
    by_cases c2 : imax at_ 0 < imax left 0
    · have d2 := decide_eq_true c2
      simp (disch := omega) only [wk, wt, wl, ↓reduceIte, Nat.reduceEqDiff, Nat.reduceAdd, Nat.zero_add, not_false_eq_true, not_true_eq_false, mxV, d1, d2, if_pos (Or.inr c2 : imax cols 1 < imax width 1 ∨ imax at_ 0 < imax left 0)]
    · have d2 := decide_eq_false c2
      have w1 : IntKind.i64.wrap (imax cols 1 - imax width 1) = imax cols 1 - imax width 1 := IntWalk.i64_in _ (by omega)
      have w2 : IntKind.i64.wrap (imax at_ 0 - (imax cols 1 - imax width 1)) = imax at_ 0 - (imax cols 1 - imax width 1) := IntWalk.i64_in _ (by omega)
      have hn : ¬ (imax cols 1 < imax width 1 ∨ imax at_ 0 < imax left 0) := by omega
      simp (disch := omega) only [wk, wt, wl, ↓reduceIte, Nat.reduceEqDiff, Nat.reduceAdd, Nat.zero_add, not_false_eq_true, not_true_eq_false, mxV, d1, d2, if_neg hn, w1, w2]
theorem refLeft_ok {at_ width left cols : Int} {h : Heap} (h1 : at_ ≤ 9223372036854775807) (h2 : width ≤ 9223372036854775807) (h3 : left ≤ 9223372036854775807) (h4 : cols ≤ 9223372036854775807) :
    ACalls prog 22 #[.int .i64 at_, .int .i64 width, .int .i64 left, .int .i64 cols] h (fun y h' => y = .int .i64 (leftZ at_ width left cols) ∧ h' = h) := by
  refine acalls_of_W func22 rfl (by kernel_rfl) (by kernel_rfl) (by simp [ntmps22]) ?_
  have A := imax_spec at_ 0
  have B := imax_spec left 0
  have C := imax_spec width 1
  have D := imax_spec cols 1
  have M := imax_spec (imax left 0) (imax at_ 0 - (imax cols 1 - imax width 1))
  have e1 := imax_comm 0 at_
  have e2 := imax_comm 0 left
  have e3 := imax_comm 1 width
  have e4 := imax_comm 1 cols
  unfold leftZ
  by_cases c1 : imax cols 1 < imax width 1
  · have d1 := decide_eq_true c1
    simp (disch := omega) only [wk, wt, wl, ↓reduceIte, Nat.reduceEqDiff, Nat.reduceAdd, Nat.zero_add, not_false_eq_true, not_true_eq_false, mxV, e1, e2, e3, e4, d1, if_pos (Or.inl c1 : imax cols 1 < imax width 1 ∨ imax at_ 0 < imax left 0)]
  · have d1 := decide_eq_false c1
    by_cases c2 : imax at_ 0 < imax left 0
    · have d2 := decide_eq_true c2
      simp (disch := omega) only [wk, wt, wl, ↓reduceIte, Nat.reduceEqDiff, Nat.reduceAdd, Nat.zero_add, not_false_eq_true, not_true_eq_false, mxV, e1, e2, e3, e4, d1, d2, if_pos (Or.inr c2 : imax cols 1 < imax width 1 ∨ imax at_ 0 < imax left 0)]
    · have d2 := decide_eq_false c2
      have w1 : IntKind.i64.wrap (imax cols 1 - imax width 1) = imax cols 1 - imax width 1 := IntWalk.i64_in _ (by omega)
      have w2 : IntKind.i64.wrap (imax at_ 0 - (imax cols 1 - imax width 1)) = imax at_ 0 - (imax cols 1 - imax width 1) := IntWalk.i64_in _ (by omega)
      have w3 : IntKind.i64.wrap (imax at_ 0 - imax left 0) = imax at_ 0 - imax left 0 := IntWalk.i64_in _ (by omega)
      have w4 : IntKind.i64.wrap (imax cols 1 - (imax at_ 0 - imax left 0)) = imax cols 1 - (imax at_ 0 - imax left 0) := IntWalk.i64_in _ (by omega)
      have hn : ¬ (imax cols 1 < imax width 1 ∨ imax at_ 0 < imax left 0) := by omega
      by_cases c3 : imax width 1 ≤ imax cols 1 - (imax at_ 0 - imax left 0)
      · have d3 := decide_eq_true c3
        have hm : imax (imax left 0) (imax at_ 0 - (imax cols 1 - imax width 1)) = imax left 0 := by omega
        simp (disch := omega) only [wk, wt, wl, ↓reduceIte, Nat.reduceEqDiff, Nat.reduceAdd, Nat.zero_add, not_false_eq_true, not_true_eq_false, mxV, e1, e2, e3, e4, d1, d2, d3, if_neg hn, w1, w2, w3, w4, hm]
      · have d3 := decide_eq_false c3
        have hm : imax (imax left 0) (imax at_ 0 - (imax cols 1 - imax width 1)) = imax at_ 0 - (imax cols 1 - imax width 1) := by omega
        simp (disch := omega) only [wk, wt, wl, ↓reduceIte, Nat.reduceEqDiff, Nat.reduceAdd, Nat.zero_add, not_false_eq_true, not_true_eq_false, mxV, e1, e2, e3, e4, d1, d2, d3, if_neg hn, w1, w2, w3, w4, hm]
end Go.Proofs.YtmjdebeikcogkaaDoor.Am
end
section
/- Views: the rows that are shown: contracts of view.Shown and of the document's Shown, by walks. -/
set_option linter.unusedSimpArgs false
set_option linter.unusedVariables false
set_option maxHeartbeats 4000000
set_option maxRecDepth 20000
namespace Go.Proofs.YtmjdebeikcogkaaDoor.Am
open Go Go.RowKit Go.Proofs.Tryd
def padR : Rw := ⟨-1, 0, 0, false⟩
def shownL (rows : List Rw) (top height : Int) : List Rw := (List.range height.toNat).map fun i => (rows[(imax top 0).toNat + i]?).getD padR
theorem shownL_len {rows : List Rw} {top height : Int} : (shownL rows top height).length = height.toNat := by simp [shownL]
theorem shownL_take {rows : List Rw} {top height : Int} {i : Nat} (hi : (i : Int) < height) : (shownL rows top height).take (i + 1) = (shownL rows top height).take i ++ [(rows[(imax top 0).toNat + i]?).getD padR] := by
  have : (shownL rows top height)[i]? = some ((rows[(imax top 0).toNat + i]?).getD padR) := by
    simp only [shownL, List.getElem?_map]
    rw [List.getElem?_range (by omega)]; rfl
  rw [List.take_add_one, this]; rfl
theorem shownL_mid {rows : List Rw} {top height : Int} {t e : Nat} (ht : (t : Int) = imin (imax top 0) rows.length) (he : (e : Int) = imin (rows.length : Int) (t + imin height rows.length)) (hh : 0 < height) :
    (rows.drop t).take (e - t) = (shownL rows top height).take (e - t) := by
  have A := imax_spec top 0
  have B := imin_spec (imax top 0) rows.length
  have C := imin_spec height rows.length
  have D := imin_spec (rows.length : Int) (t + imin height rows.length)
  refine List.ext_getElem? fun j => ?_
  rw [List.getElem?_take, List.getElem?_take]
  split
  · rename_i hj
    simp only [shownL, List.getElem?_map]
    rw [List.getElem?_drop, List.getElem?_range (by omega)]
    have hT : (imax top 0).toNat = t := by omega
    rw [hT]
    simp only [Option.map_some]
    rw [List.getElem?_eq_getElem (by omega)]; rfl
  · rfl
def lenV : Value → Nat
  | .slice _ n _ => n
  | _ => 0
theorem Rd.lenV {P : Program} {h : Heap} {s n : Nat} {v : Value} {cs : List Value} (R : Rd P h s v n cs) : lenV v = n := by
  obtain ⟨_, ⟨g, rfl | rfl⟩ | ⟨_, _, _, _, rfl, _⟩⟩ := R
  · exact g.symm
  · exact g.symm
  · rfl
/-- Of some elements, its room is not known. -/
def Cap0 (v : Value) : Prop := ∀ a n c, v = .slice a n c → n = 0 ∨ c = 0
theorem Cap0.mk0 {a : Option Addr} {n : Nat} : Cap0 (.slice a n 0) := fun _ _ _ e => by cases e; exact .inr rfl
theorem cloneR_ok {v : Value} {l : List Rw} {h : Heap} (R : RR h v l) (hl : l.length ≤ 1048576) :
    ACalls prog 42 #[v] h (fun y h' => OS prog h.size h' 4 cR y l ∧ (∀ b, blkOf y = some b → h.size ≤ b) ∧ Keeps h h' ∧ Cap0 y) := by
  refine acalls_of_W' func42 rfl (by kernel_rfl) (by kernel_rfl) (by simp [ntmps42]) ?_
  intro H
  have R0 := R
  obtain ⟨hlen, h2⟩ := R
  have eqn : ∀ c, abin prog .eql 28 (.slice none 0 c) (.slice none 0 0) = some (.bool true) := fun c => by simp [abin, aeq, underlying28]
  have eqs : ∀ a n c, abin prog .eql 28 (.slice (some a) n c) (.slice none 0 0) = some (.bool false) := fun a n c => by simp [abin, aeq, underlying28]
  have nl : l.length = 0 → l = [] := List.eq_nil_of_length_eq_zero
  rcases h2 with ⟨h0, rfl | rfl⟩ | ⟨b, o, c, k, rfl, hb, hk, hlv, ha, ho, hc⟩
  · simp only [wk, wt, wl, ↓reduceIte, Nat.reduceEqDiff, Nat.reduceAdd, Nat.zero_add, not_false_eq_true, not_true_eq_false, eqn]
    rw [nl h0]; exact ⟨OS.nil, (fun b e => by cases e), Keeps.refl H, fun a n c e => by cases e; exact .inl rfl⟩
  · simp only [wk, wt, wl, ↓reduceIte, Nat.reduceEqDiff, Nat.reduceAdd, Nat.zero_add, not_false_eq_true, not_true_eq_false, eqn]
    rw [nl h0]; exact ⟨OS.nil, (fun b e => by cases e), Keeps.refl H, fun a n c e => by cases e; exact .inl rfl⟩
  · simp only [wk, wt, wl, ↓reduceIte, Nat.reduceEqDiff, Nat.reduceAdd, Nat.zero_add, not_false_eq_true, not_true_eq_false, eqs, build0 underlying28 asz37]
    have O0 : OS prog h.size (h.new 37 []) 4 cR (.slice (some ⟨h.size, 0, none⟩) 0 1) ([] : List Rw) := Own.new H (Nat.le_refl _) asz37 (by simp)
    have K1 := Keeps.new H 37 []
    obtain ⟨v2, h2, e2, O2, R2, C2, hv⟩ := O0.appendRS (Ch.wf K1) (Ch.le K1) underlying28 elem37 fits37 (by decide) (RS.keeps R0 K1) (by simp; omega)
    rw [e2]; clear e2
    simp only [wk, wt, wl, ↓reduceIte, Nat.reduceEqDiff, Nat.reduceAdd, Nat.zero_add, not_false_eq_true, not_true_eq_false]
    refine ⟨by simpa using O2, fun b e => ?_, K1.step C2 fun b hb => hb.2, ?_⟩
    rotate_left
    · rcases hv with rfl | rfl | rfl <;> intro a n c e <;> cases e <;> first | exact .inl rfl | exact .inr rfl
    rcases hv with rfl | rfl | rfl
    · simp only [blkOf, Option.some.injEq] at e; omega
    · cases e
    · simp only [blkOf, Option.some.injEq] at e; have := new_size (h := h) (e := 37) (cs := []); omega
theorem viewShown_ok {v : Value} {l : List Rw} {top height : Int} {h : Heap} (R : RR h v l) (hl : l.length ≤ 1048576) (hh : height ≤ 3000) :
    ACalls prog 23 #[v, .int .i64 top, .int .i64 height] h (fun y h' => OS prog h.size h' 4 cR y (shownL l top height) ∧ (∀ b, blkOf y = some b → h.size ≤ b) ∧ Keeps h h' ∧ Cap0 y) := by
  refine acalls_of_W' func23 rfl (by kernel_rfl) (by kernel_rfl) (by simp [ntmps23]) ?_
  intro H
  by_cases h0 : height ≤ 0
  · have d0 := decide_eq_true h0
    simp only [wk, wt, wl, ↓reduceIte, Nat.reduceEqDiff, Nat.reduceAdd, Nat.zero_add, not_false_eq_true, not_true_eq_false, d0]
    have : shownL l top height = [] := List.eq_nil_of_length_eq_zero (by rw [shownL_len]; omega)
    rw [this]; exact ⟨OS.nil, (fun b e => by cases e), Keeps.refl H, fun a n c e => by cases e; exact .inl rfl⟩
  · have d0 := decide_eq_false h0
    have A := imax_spec top 0
    have B := imin_spec (imax top 0) l.length
    have C := imin_spec height l.length
    obtain ⟨t, ht⟩ : ∃ t : Nat, (t : Int) = imin (imax top 0) l.length := ⟨(imin (imax top 0) l.length).toNat, by omega⟩
    have w1 : IntKind.i64.wrap ((t : Int) + imin height l.length) = t + imin height l.length := IntWalk.i64_in _ (by omega)
    have D := imin_spec (l.length : Int) (t + imin height l.length)
    obtain ⟨e, he⟩ : ∃ e : Nat, (e : Int) = imin (l.length : Int) (t + imin height l.length) := ⟨(imin (l.length : Int) (t + imin height l.length)).toNat, by omega⟩
    have S2 := Rd.slice2 R underlying28 asz37 (q := .i64) (q' := .i64) (i := (t : Int)) (j := (e : Int)) (by omega) (by omega) (by omega)
    simp only [Int.toNat_natCast] at S2
    simp (disch := omega) only [wk, wt, wl, ↓reduceIte, Nat.reduceEqDiff, Nat.reduceAdd, Nat.zero_add, not_false_eq_true, not_true_eq_false, d0, mxV, mnV, R.len underlying28, ← ht, w1, ← he, S2]
    have P := RS.part R cR_len (L := t) (H := e) (by omega) (by omega)
    rw [shownL_mid ht he (by omega)] at P
    refine (cloneR_ok P (by rw [List.length_take, shownL_len]; omega)).use ?_
    rintro ov h2 ⟨O, hf, K, hc0⟩
    simp (disch := omega) only [wk, wt, wl, ↓reduceIte, Nat.reduceEqDiff, Nat.reduceAdd, Nat.zero_add, not_false_eq_true, not_true_eq_false]
    refine W_loop (fun tm h' => Keeps h h' ∧ tm 2 = .int .i64 height ∧ ∃ (ov : Value) (m : Nat), tm 7 = ov ∧ e - t ≤ m ∧ (m : Int) ≤ height ∧ OS prog h.size h' 4 cR ov ((shownL l top height).take m) ∧ (∀ b, blkOf ov = some b → h.size ≤ b) ∧ Cap0 ov) (fun tm _ => (height - lenV (tm 7)).toNat)
      ⟨K, (by first | rfl | (simp only [wk, wt, wl, ↓reduceIte, Nat.reduceEqDiff, Nat.reduceAdd, Nat.zero_add, not_false_eq_true, not_true_eq_false]; done) | (simp only [wk, wt, wl, ↓reduceIte, Nat.reduceEqDiff, Nat.reduceAdd, Nat.zero_add, not_false_eq_true, not_true_eq_false]; rfl)), ov, e - t, (by first | rfl | (simp only [wk, wt, wl, ↓reduceIte, Nat.reduceEqDiff, Nat.reduceAdd, Nat.zero_add, not_false_eq_true, not_true_eq_false]; done) | (simp only [wk, wt, wl, ↓reduceIte, Nat.reduceEqDiff, Nat.reduceAdd, Nat.zero_add, not_false_eq_true, not_true_eq_false]; rfl)), Nat.le_refl _, by omega, O, hf, hc0⟩ ?_
    clear K O hf hc0
    rintro tm h' ⟨K, t2, ov, m, t7, hm0, hm1, O, hf, hc0⟩
    have hlen : ((shownL l top height).take m).length = m := by rw [List.length_take, shownL_len]; omega
    have L := O.rs.len underlying28
    rw [hlen] at L
    have hn : lenV ov = m := by rw [Rd.lenV O.rs, hlen]
    simp (disch := omega) only [wk, wt, wl, ↓reduceIte, Nat.reduceEqDiff, Nat.reduceAdd, Nat.zero_add, not_false_eq_true, not_true_eq_false, t2, t7, L]
    refine condK_dec (fun hd => ?_) (fun hd => ?_)
    · simp (disch := omega) only [wk, wt, wl, ↓reduceIte, Nat.reduceEqDiff, Nat.reduceAdd, Nat.zero_add, not_false_eq_true, not_true_eq_false, t2, t7, build_r1, bsr]
      obtain ⟨v2, h3, e2, O2, C2, RD2, ev2⟩ := O.append1 (P := prog) (Ch.wf K) (Ch.le K) underlying28 elem37 fits37 (by decide) (by decide) ⟨-1, 0, 0, false⟩ rfl (by rw [hlen]; omega)
      rw [e2]; clear e2
      have hp : (l[(imax top 0).toNat + m]?).getD padR = ⟨-1, 0, 0, false⟩ := by rw [List.getElem?_eq_none (by omega)]; rfl
      have hts := shownL_take (rows := l) (top := top) hd
      rw [hp] at hts
      rw [hlen] at ev2
      have hle := Ch.le K
      simp (disch := omega) only [wk, wt, wl, ↓reduceIte, Nat.reduceEqDiff, Nat.reduceAdd, Nat.zero_add, not_false_eq_true, not_true_eq_false, t2, t7]
      refine ⟨⟨K.step C2 fun b hb => hb.2, v2, m + 1, rfl, by omega, by omega, by rw [hts]; exact O2, (fun b e => by rw [ev2] at e; simp only [blkOf, Option.some.injEq] at e; omega), by rw [ev2]; exact Cap0.mk0⟩, ?_⟩
      rw [hn, ev2]; simp only [lenV]; omega
    · have hmh : (shownL l top height).take m = shownL l top height := List.take_of_length_le (by rw [shownL_len]; omega)
      rw [hmh] at O
      simp (disch := omega) only [wk, wt, wl, ↓reduceIte, Nat.reduceEqDiff, Nat.reduceAdd, Nat.zero_add, not_false_eq_true, not_true_eq_false, t7]
      exact ⟨O, hf, K, hc0⟩
theorem refShown_ok {v : Value} {l : List Rw} {top height : Int} {h : Heap} (R : RR h v l) (hl : l.length ≤ 1048576) (hh : height ≤ 3000) :
    ACalls prog 24 #[v, .int .i64 top, .int .i64 height] h (fun y h' => RR h' y (shownL l top height) ∧ Keeps h h') := by
  refine acalls_of_W' func24 rfl (by kernel_rfl) (by kernel_rfl) (by simp [ntmps24]) ?_
  intro H
  have A := imax_spec top 0
  obtain ⟨T, hT⟩ : ∃ T : Nat, (T : Int) = imax top 0 := ⟨(imax top 0).toNat, by omega⟩
  have hT' : (imax top 0).toNat = T := by omega
  simp (disch := omega) only [wk, wt, wl, ↓reduceIte, Nat.reduceEqDiff, Nat.reduceAdd, Nat.zero_add, not_false_eq_true, not_true_eq_false, mxV, imax_comm 0 top, ← hT]
  refine W_loop (fun tm h' => Keeps h h' ∧ tm 0 = v ∧ tm 1 = .int .i64 T ∧ tm 2 = .int .i64 height ∧ ∃ (i : Nat) (ov : Value), tm 8 = .int .i64 i ∧ tm 7 = ov ∧ (i = 0 ∨ (i : Int) ≤ height) ∧ OS prog h.size h' 4 cR ov ((shownL l top height).take i)) (fun tm _ => (height - intOf (tm 8)).toNat)
    ⟨Keeps.refl H, (by first | rfl | (simp only [wk, wt, wl, ↓reduceIte, Nat.reduceEqDiff, Nat.reduceAdd, Nat.zero_add, not_false_eq_true, not_true_eq_false]; done) | (simp only [wk, wt, wl, ↓reduceIte, Nat.reduceEqDiff, Nat.reduceAdd, Nat.zero_add, not_false_eq_true, not_true_eq_false]; rfl)), (by first | rfl | (simp only [wk, wt, wl, ↓reduceIte, Nat.reduceEqDiff, Nat.reduceAdd, Nat.zero_add, not_false_eq_true, not_true_eq_false]; done) | (simp only [wk, wt, wl, ↓reduceIte, Nat.reduceEqDiff, Nat.reduceAdd, Nat.zero_add, not_false_eq_true, not_true_eq_false]; rfl)), (by first | rfl | (simp only [wk, wt, wl, ↓reduceIte, Nat.reduceEqDiff, Nat.reduceAdd, Nat.zero_add, not_false_eq_true, not_true_eq_false]; done) | (simp only [wk, wt, wl, ↓reduceIte, Nat.reduceEqDiff, Nat.reduceAdd, Nat.zero_add, not_false_eq_true, not_true_eq_false]; rfl)), 0, .slice none 0 0, (by first | rfl | (simp only [wk, wt, wl, ↓reduceIte, Nat.reduceEqDiff, Nat.reduceAdd, Nat.zero_add, not_false_eq_true, not_true_eq_false]; done) | (simp only [wk, wt, wl, ↓reduceIte, Nat.reduceEqDiff, Nat.reduceAdd, Nat.zero_add, not_false_eq_true, not_true_eq_false]; rfl)), (by first | rfl | (simp only [wk, wt, wl, ↓reduceIte, Nat.reduceEqDiff, Nat.reduceAdd, Nat.zero_add, not_false_eq_true, not_true_eq_false]; done) | (simp only [wk, wt, wl, ↓reduceIte, Nat.reduceEqDiff, Nat.reduceAdd, Nat.zero_add, not_false_eq_true, not_true_eq_false]; rfl)), .inl rfl, by rw [List.take_zero]; exact OS.nil⟩ ?_
  rintro tm h' ⟨K, t0, t1, t2, i, ov, t8, t7, hi, O⟩
  have R' : RR h' v l := RS.keeps R K
  simp (disch := omega) only [wk, wt, wl, ↓reduceIte, Nat.reduceEqDiff, Nat.reduceAdd, Nat.zero_add, not_false_eq_true, not_true_eq_false, t0, t1, t2, t7, t8]
  refine condK_dec (fun hd => ?_) (fun hd => ?_)
  · have hts := shownL_take (rows := l) (top := top) hd
    rw [hT'] at hts
    have hlen : ((shownL l top height).take i).length ≤ 3000 := by rw [List.length_take, shownL_len]; omega
    by_cases hin : T + i < l.length
    · have d1 : decide ((T : Int) < l.length) = true := decide_eq_true (by omega)
      have w1 : IntKind.i64.wrap ((l.length : Int) - T) = l.length - T := IntWalk.i64_in _ (by omega)
      have d2 : decide ((i : Int) < (l.length : Int) - T) = true := decide_eq_true (by omega)
      obtain ⟨x, hx⟩ : ∃ x, l[T + i]? = some x := ⟨l[T + i], by simp [hin]⟩
      obtain ⟨A0, A1, A2, A3, A4⟩ := RR.flds R' hx
      have IX := Rd.index R' underlying28 asz37 (q := .i64) (i := (T : Int) + i) (by omega) (by omega)
      have hti : ((T : Int) + i).toNat = T + i := by omega
      rw [hti] at IX
      have w2 : IntKind.i64.wrap ((T : Int) + i) = (T : Int) + i := IntWalk.i64_in _ (by omega)
      rw [hx] at hts
      simp (disch := omega) only [wk, wt, wl, ↓reduceIte, Nat.reduceEqDiff, Nat.reduceAdd, Nat.zero_add, not_false_eq_true, not_true_eq_false, t0, t1, t2, t7, t8, R'.len underlying28, d1, w1, d2, w2, IX, A4, bsr]
      obtain ⟨v2, h3, e2, O2, C2, RD2, ev2⟩ := O.append1 (P := prog) (Ch.wf K) (Ch.le K) underlying28 elem37 fits37 (by decide) (by decide) ⟨x.ln, x.fr, x.to, x.fo⟩ rfl (by omega)
      rw [e2]; clear e2
      simp (disch := omega) only [wk, wt, wl, ↓reduceIte, Nat.reduceEqDiff, Nat.reduceAdd, Nat.zero_add, not_false_eq_true, not_true_eq_false, t0, t1, t2, t8, IntWalk.i64_in, intOf_int]
      exact ⟨⟨K.step C2 fun b hb => hb.2, i + 1, v2, by simp, rfl, .inr (by omega), by rw [hts]; exact O2⟩, by omega⟩
    · have hx : l[T + i]? = none := List.getElem?_eq_none (by omega)
      rw [hx] at hts
      by_cases c1 : (T : Int) < l.length
      · have d1 := decide_eq_true c1
        have w1 : IntKind.i64.wrap ((l.length : Int) - T) = l.length - T := IntWalk.i64_in _ (by omega)
        have d2 : decide ((i : Int) < (l.length : Int) - T) = false := decide_eq_false (by omega)
        simp (disch := omega) only [wk, wt, wl, ↓reduceIte, Nat.reduceEqDiff, Nat.reduceAdd, Nat.zero_add, not_false_eq_true, not_true_eq_false, t0, t1, t2, t7, t8, R'.len underlying28, d1, w1, d2, build_r1, bsr]
        obtain ⟨v2, h3, e2, O2, C2, RD2, ev2⟩ := O.append1 (P := prog) (Ch.wf K) (Ch.le K) underlying28 elem37 fits37 (by decide) (by decide) ⟨-1, 0, 0, false⟩ rfl (by omega)
        rw [e2]; clear e2
        simp (disch := omega) only [wk, wt, wl, ↓reduceIte, Nat.reduceEqDiff, Nat.reduceAdd, Nat.zero_add, not_false_eq_true, not_true_eq_false, t0, t1, t2, t8, IntWalk.i64_in, intOf_int]
        exact ⟨⟨K.step C2 fun b hb => hb.2, i + 1, v2, by simp, rfl, .inr (by omega), by rw [hts]; exact O2⟩, by omega⟩
      · have d1 := decide_eq_false c1
        simp (disch := omega) only [wk, wt, wl, ↓reduceIte, Nat.reduceEqDiff, Nat.reduceAdd, Nat.zero_add, not_false_eq_true, not_true_eq_false, t0, t1, t2, t7, t8, R'.len underlying28, d1, build_r1, bsr]
        obtain ⟨v2, h3, e2, O2, C2, RD2, ev2⟩ := O.append1 (P := prog) (Ch.wf K) (Ch.le K) underlying28 elem37 fits37 (by decide) (by decide) ⟨-1, 0, 0, false⟩ rfl (by omega)
        rw [e2]; clear e2
        simp (disch := omega) only [wk, wt, wl, ↓reduceIte, Nat.reduceEqDiff, Nat.reduceAdd, Nat.zero_add, not_false_eq_true, not_true_eq_false, t0, t1, t2, t8, IntWalk.i64_in, intOf_int]
        exact ⟨⟨K.step C2 fun b hb => hb.2, i + 1, v2, by simp, rfl, .inr (by omega), by rw [hts]; exact O2⟩, by omega⟩
  · have hmh : (shownL l top height).take i = shownL l top height := List.take_of_length_le (by rw [shownL_len]; omega)
    rw [hmh] at O
    simp (disch := omega) only [wk, wt, wl, ↓reduceIte, Nat.reduceEqDiff, Nat.reduceAdd, Nat.zero_add, not_false_eq_true, not_true_eq_false, t7]
    exact ⟨O.rs, K⟩
end Go.Proofs.YtmjdebeikcogkaaDoor.Am
end
section
/- Views: places in a text: contracts of word.Clip and of the document's Clip, by walks. -/
set_option linter.unusedSimpArgs false
set_option linter.unusedVariables false
set_option maxHeartbeats 4000000
set_option maxRecDepth 20000
namespace Go.Proofs.YtmjdebeikcogkaaDoor.Am
open Go Go.RowKit Go.Proofs.Tryd
def posV (a b : Int) : Value := .agg #[.int .i64 a, .int .i64 b]
theorem boxV_pos {h : Heap} {a b : Int} : boxV prog h 32 (posV a b) = some (.pointer (some ⟨h.size, 0, none⟩), h.new 32 [.int .i64 a, .int .i64 b]) := by
  simp [boxV, asz32, posV, Value.cells, one]
theorem build_p0 : abuild prog 32 #[] = some (.agg #[.int .i64 0, .int .i64 0]) := by simp [abuild, wt, aplaces, Instr.fill, Value.cells]
theorem build_p1 {x : Int} : abuild prog 32 #[(1, .int .i64 x)] = some (.agg #[.int .i64 0, .int .i64 x]) := by simp [abuild, wt, aplaces, Instr.fill, Value.cells]
def clipL (ls : List (List Int)) (pl : Int) : Int := if ls.length = 0 then 0 else imin (imax pl 0) (ls.length - 1)
def clipC (ls : List (List Int)) (pl pc : Int) : Int := if ls.length = 0 then 0 else imax (imin pc ((ls.getD (clipL ls pl).toNat []).length - 1)) 0
theorem clipL_in {ls : List (List Int)} {pl : Int} (h : ls.length ≠ 0) : 0 ≤ clipL ls pl ∧ clipL ls pl < ls.length := by
  unfold clipL; rw [if_neg h]
  have := imax_spec pl 0
  have := imin_spec (imax pl 0) (ls.length - 1)
  omega
theorem imaxmin {pl n : Int} (hn : 0 ≤ n) : imax 0 (imin pl n) = imin (imax pl 0) n := by
  have := imax_spec pl 0
  have := imin_spec (imax pl 0) n
  have := imin_spec pl n
  have := imax_spec 0 (imin pl n)
  omega
theorem wordClip_ok {v : Value} {ls : List (List Int)} {pl pc : Int} {h : Heap} (T : LT h v ls) (HT : TextOk ls) (hl : ls.length ≤ 1048576) : ACalls prog 32 #[v, posV pl pc] h (fun y h' => y = posV (clipL ls pl) (clipC ls pl pc) ∧ Keeps h h') := by
  refine acalls_of_W' func32 rfl (by kernel_rfl) (by kernel_rfl) (by simp [ntmps32]) ?_
  intro H
  have N1 := Keeps.new H 32 [.int .i64 pl, .int .i64 pc]
  have V1 := Var.new (e := 32) H (cs := [.int .i64 pl, .int .i64 pc])
  have N2 := Keeps.new (Ch.wf N1) 32 [.int .i64 0, .int .i64 0]
  have V2 := Var.new (e := 32) (Ch.wf N1) (cs := [.int .i64 0, .int .i64 0])
  have KK := N1.trans N2
  have V1 := Keeps.var (Ch.wf N1) N2 V1
  have T2 := T.keeps KK
  have hz1 : (h.new 32 [.int .i64 pl, .int .i64 pc]).size = h.size + 1 := rfl
  rw [hz1] at V2
  by_cases h0 : ls.length = 0
  · have d0 : decide ((ls.length : Int) = 0) = true := decide_eq_true (by omega)
    simp (disch := omega) only [wk, wt, wl, ↓reduceIte, Nat.reduceEqDiff, Nat.reduceAdd, Nat.zero_add, not_false_eq_true, not_true_eq_false, aeff_box, boxV_pos, T2.len, d0, build_p0, new_size]
    obtain ⟨h3, e3, V3, C3, z3⟩ := V2.store (P := prog) (t := 32) (v := .agg #[.int .i64 0, .int .i64 0]) (i := 0) (Ch.wf N2) asz32 (by simp [Value.cells]) (by simp [Value.cells, one])
    rw [e3]; clear e3
    simp only [Value.cells, over_all (xs := [.int .i64 0, .int .i64 0]) (vs := [.int .i64 0, .int .i64 0]) rfl] at V3
    simp (disch := omega) only [wk, wt, wl, ↓reduceIte, Nat.reduceEqDiff, Nat.reduceAdd, Nat.zero_add, not_false_eq_true, not_true_eq_false, V3.loadA (P := prog) (t := 32) underlying32 rfl asz32]
    exact ⟨by simp [posV, clipL, clipC, h0], KK.step C3 fun b e => by omega⟩
  · have d0 : decide ((ls.length : Int) = 0) = false := decide_eq_false (by omega)
    have hin := clipL_in (pl := pl) h0
    have A := imax_spec pl 0
    obtain ⟨i, xs, hfi, hil, hxs, hgd, hrn, hxl⟩ := HT.get (f := ⟨clipL ls pl, 0, false⟩) hin.1 hin.2
    simp only at hfi hgd
    have hcl : clipL ls pl = imin (imax pl 0) (ls.length - 1) := by unfold clipL; rw [if_neg h0]
    have hcc : clipC ls pl pc = imax (imin pc ((xs.length : Int) - 1)) 0 := by unfold clipC; rw [if_neg h0, hgd]
    have wn : IntKind.i64.wrap ((ls.length : Int) - 1) = (ls.length : Int) - 1 := IntWalk.i64_in _ (by omega)
    have wx : IntKind.i64.wrap ((xs.length : Int) - 1) = (xs.length : Int) - 1 := IntWalk.i64_in _ (by omega)
    have WP := fun {hh : Heap} {a b : Int} (V : Var hh h.size [.int .i64 a, .int .i64 b]) => And.intro (V.load1 (P := prog) (t := 3) underlying3 rfl (i := 0)) (V.load1 (P := prog) (t := 3) underlying3 rfl (i := 1))
    simp only [List.getElem?_cons_succ, List.getElem?_cons_zero] at WP
    have hm1 : imax 0 (imin pl (ls.length - 1)) = imin (imax pl 0) (ls.length - 1) := imaxmin (by omega)
    have hm2 := imax_comm 0 (imin pc ((xs.length : Int) - 1))
    simp (disch := omega) only [wk, wt, wl, ↓reduceIte, Nat.reduceEqDiff, Nat.reduceAdd, Nat.zero_add, not_false_eq_true, not_true_eq_false, aeff_box, boxV_pos, T2.len, d0, new_size, WP V1, mxV, mnV, wn, hm1]
    rw [← hcl]
    obtain ⟨h3, e3, V3, C3, z3⟩ := V1.store1 (P := prog) (t := 3) (v := .int .i64 (clipL ls pl)) (i := 0) (Ch.wf N2) asz3 (by simp) rfl
    simp only [List.set_cons_zero] at V3
    have K3 := KK.step C3 fun b e => by omega
    have V23 := Ch.var (Ch.wf N2) C3 V2 (by omega)
    have T3 := T.keeps K3
    obtain ⟨xv, A1, A2⟩ := T3.at hxs
    rw [hfi] at V3 e3
    rw [hfi]
    simp (disch := omega) only [wk, wt, wl, ↓reduceIte, Nat.reduceEqDiff, Nat.reduceAdd, Nat.zero_add, not_false_eq_true, not_true_eq_false, e3]
    refine adraw_order [(0, false), (1, false), (2, false), (3, false), (4, false), (5, false), (6, false), (7, false), (8, false), (9, false), (10, false), (11, false), (12, false)] mixed (by kernel_rfl) (by kernel_rfl) (by kernel_rfl) (by repeat (first | exact PF_retK | refine PF_thenK ?_ | refine PF_blockK ?_)) ?_
    simp (disch := omega) only [wk, wt, wl, ↓reduceIte, Nat.reduceEqDiff, Nat.reduceAdd, Nat.zero_add, not_false_eq_true, not_true_eq_false, dK_t, WP V3, T3.index hil, A1, A2.len underlying43, mxV, mnV, wx, hm2]
    rw [← hcc]
    obtain ⟨h4, e4, V4, C4, z4⟩ := V3.store1 (P := prog) (t := 3) (v := .int .i64 (clipC ls pl pc)) (i := 1) (Ch.wf C3) asz3 (by simp) rfl
    simp only [List.set_cons_succ, List.set_cons_zero] at V4
    have V24 := Ch.var (Ch.wf C3) C4 V23 (by omega)
    simp (disch := omega) only [wk, wt, wl, ↓reduceIte, Nat.reduceEqDiff, Nat.reduceAdd, Nat.zero_add, not_false_eq_true, not_true_eq_false, dK_t, e4, V4.loadA (P := prog) (t := 32) underlying32 rfl asz32]
    obtain ⟨h5, e5, V5, C5, z5⟩ := V24.store (P := prog) (t := 32) (v := .agg #[.int .i64 i, .int .i64 (clipC ls pl pc)]) (i := 0) (Ch.wf C4) asz32 (by simp [Value.cells]) (by simp [Value.cells, one])
    rw [e5]; clear e5
    simp only [Value.cells, over_all (xs := [.int .i64 0, .int .i64 0]) (vs := [.int .i64 i, .int .i64 (clipC ls pl pc)]) rfl] at V5
    simp (disch := omega) only [wk, wt, wl, ↓reduceIte, Nat.reduceEqDiff, Nat.reduceAdd, Nat.zero_add, not_false_eq_true, not_true_eq_false, V5.loadA (P := prog) (t := 32) underlying32 rfl asz32]
    exact ⟨rfl, (K3.step C4 fun b e => by omega).step C5 fun b e => by omega⟩
theorem refClip_ok {v : Value} {ls : List (List Int)} {pl pc : Int} {h : Heap} (T : LT h v ls) (HT : TextOk ls) (hl : ls.length ≤ 1048576) : ACalls prog 16 #[v, posV pl pc] h (fun y h' => y = posV (clipL ls pl) (clipC ls pl pc) ∧ Keeps h h') := by
  refine acalls_of_W' func16 rfl (by kernel_rfl) (by kernel_rfl) (by simp [ntmps16]) ?_
  intro H
  have N1 := Keeps.new H 32 [.int .i64 pl, .int .i64 pc]
  have V1 := Var.new (e := 32) H (cs := [.int .i64 pl, .int .i64 pc])
  have N2 := Keeps.new (Ch.wf N1) 32 [.int .i64 0, .int .i64 0]
  have V2 := Var.new (e := 32) (Ch.wf N1) (cs := [.int .i64 0, .int .i64 0])
  have KK := N1.trans N2
  have V1 := Keeps.var (Ch.wf N1) N2 V1
  have T2 := T.keeps KK
  have hz1 : (h.new 32 [.int .i64 pl, .int .i64 pc]).size = h.size + 1 := rfl
  rw [hz1] at V2
  by_cases h0 : ls.length = 0
  · have d0 : decide ((ls.length : Int) = 0) = true := decide_eq_true (by omega)
    simp (disch := omega) only [wk, wt, wl, ↓reduceIte, Nat.reduceEqDiff, Nat.reduceAdd, Nat.zero_add, not_false_eq_true, not_true_eq_false, aeff_box, boxV_pos, T2.len, d0, build_p0, new_size]
    obtain ⟨h3, e3, V3, C3, z3⟩ := V2.store (P := prog) (t := 32) (v := .agg #[.int .i64 0, .int .i64 0]) (i := 0) (Ch.wf N2) asz32 (by simp [Value.cells]) (by simp [Value.cells, one])
    rw [e3]; clear e3
    simp only [Value.cells, over_all (xs := [.int .i64 0, .int .i64 0]) (vs := [.int .i64 0, .int .i64 0]) rfl] at V3
    simp (disch := omega) only [wk, wt, wl, ↓reduceIte, Nat.reduceEqDiff, Nat.reduceAdd, Nat.zero_add, not_false_eq_true, not_true_eq_false, V3.loadA (P := prog) (t := 32) underlying32 rfl asz32]
    exact ⟨by simp [posV, clipL, clipC, h0], KK.step C3 fun b e => by omega⟩
  · have d0 : decide ((ls.length : Int) = 0) = false := decide_eq_false (by omega)
    have hin := clipL_in (pl := pl) h0
    have A := imax_spec pl 0
    obtain ⟨i, xs, hfi, hil, hxs, hgd, hrn, hxl⟩ := HT.get (f := ⟨clipL ls pl, 0, false⟩) hin.1 hin.2
    simp only at hfi hgd
    have hcl : clipL ls pl = imin (imax pl 0) (ls.length - 1) := by unfold clipL; rw [if_neg h0]
    have hcc : clipC ls pl pc = imax (imin pc ((xs.length : Int) - 1)) 0 := by unfold clipC; rw [if_neg h0, hgd]
    have wn : IntKind.i64.wrap ((ls.length : Int) - 1) = (ls.length : Int) - 1 := IntWalk.i64_in _ (by omega)
    have wx : IntKind.i64.wrap ((xs.length : Int) - 1) = (xs.length : Int) - 1 := IntWalk.i64_in _ (by omega)
    have WP := fun {hh : Heap} {a b : Int} (V : Var hh h.size [.int .i64 a, .int .i64 b]) => And.intro (V.load1 (P := prog) (t := 3) underlying3 rfl (i := 0)) (V.load1 (P := prog) (t := 3) underlying3 rfl (i := 1))
    simp only [List.getElem?_cons_succ, List.getElem?_cons_zero] at WP
    have hm1 : imax 0 (imin pl (ls.length - 1)) = imin (imax pl 0) (ls.length - 1) := imaxmin (by omega)
    have hm2 := imax_comm 0 (imin pc ((xs.length : Int) - 1))
    simp (disch := omega) only [wk, wt, wl, ↓reduceIte, Nat.reduceEqDiff, Nat.reduceAdd, Nat.zero_add, not_false_eq_true, not_true_eq_false, aeff_box, boxV_pos, T2.len, d0, new_size, WP V1, mxV, mnV, wn, hm1]
    rw [← hcl]
    obtain ⟨h3, e3, V3, C3, z3⟩ := V1.store1 (P := prog) (t := 3) (v := .int .i64 (clipL ls pl)) (i := 0) (Ch.wf N2) asz3 (by simp) rfl
    simp only [List.set_cons_zero] at V3
    have K3 := KK.step C3 fun b e => by omega
    have V23 := Ch.var (Ch.wf N2) C3 V2 (by omega)
    have T3 := T.keeps K3
    obtain ⟨xv, A1, A2⟩ := T3.at hxs
    rw [hfi] at V3 e3
    rw [hfi]
    simp (disch := omega) only [wk, wt, wl, ↓reduceIte, Nat.reduceEqDiff, Nat.reduceAdd, Nat.zero_add, not_false_eq_true, not_true_eq_false, e3]
    refine adraw_order [(0, false), (1, false), (2, false), (3, false), (4, false), (5, false), (6, false), (7, false), (8, false), (9, false), (10, false), (11, false), (12, false)] mixed (by kernel_rfl) (by kernel_rfl) (by kernel_rfl) (by repeat (first | exact PF_retK | refine PF_thenK ?_ | refine PF_blockK ?_)) ?_
    simp (disch := omega) only [wk, wt, wl, ↓reduceIte, Nat.reduceEqDiff, Nat.reduceAdd, Nat.zero_add, not_false_eq_true, not_true_eq_false, dK_t, WP V3, T3.index hil, A1, A2.len underlying43, mxV, mnV, wx, hm2]
    rw [← hcc]
    obtain ⟨h4, e4, V4, C4, z4⟩ := V3.store1 (P := prog) (t := 3) (v := .int .i64 (clipC ls pl pc)) (i := 1) (Ch.wf C3) asz3 (by simp) rfl
    simp only [List.set_cons_succ, List.set_cons_zero] at V4
    have V24 := Ch.var (Ch.wf C3) C4 V23 (by omega)
    simp (disch := omega) only [wk, wt, wl, ↓reduceIte, Nat.reduceEqDiff, Nat.reduceAdd, Nat.zero_add, not_false_eq_true, not_true_eq_false, dK_t, e4, V4.loadA (P := prog) (t := 32) underlying32 rfl asz32]
    obtain ⟨h5, e5, V5, C5, z5⟩ := V24.store (P := prog) (t := 32) (v := .agg #[.int .i64 i, .int .i64 (clipC ls pl pc)]) (i := 0) (Ch.wf C4) asz32 (by simp [Value.cells]) (by simp [Value.cells, one])
    rw [e5]; clear e5
    simp only [Value.cells, over_all (xs := [.int .i64 0, .int .i64 0]) (vs := [.int .i64 i, .int .i64 (clipC ls pl pc)]) rfl] at V5
    simp (disch := omega) only [wk, wt, wl, ↓reduceIte, Nat.reduceEqDiff, Nat.reduceAdd, Nat.zero_add, not_false_eq_true, not_true_eq_false, V5.loadA (P := prog) (t := 32) underlying32 rfl asz32]
    exact ⟨rfl, (K3.step C4 fun b e => by omega).step C5 fun b e => by omega⟩
end Go.Proofs.YtmjdebeikcogkaaDoor.Am
end
section
/- Views: which row shows a place: contracts of view.Find's comparison, of the search, of view.Find, by walks. -/
set_option linter.unusedSimpArgs false
set_option linter.unusedVariables false
set_option maxHeartbeats 4000000
set_option maxRecDepth 20000
namespace Go.Proofs.YtmjdebeikcogkaaDoor.Am
open Go Go.RowKit Go.Proofs.Tryd
def rowV (x : Rw) : Value := .agg #[.int .i64 x.ln, .int .i64 x.fr, .int .i64 x.to, .bool x.fo]
theorem boxV_row {h : Heap} {x : Rw} : boxV prog h 37 (rowV x) = some (.pointer (some ⟨h.size, 0, none⟩), h.new 37 (cR x)) := by
  simp [boxV, asz37, rowV, cR, Value.cells, one]
/-- Does a row begin at a place or ahead of it? -/
def befB (pl col : Int) (x : Rw) : Bool := decide (x.ln < pl) || (decide (x.ln = pl) && (x.fo || decide (x.fr ≤ col)))
theorem cmpR_ok {x : Rw} {pl pc col : Int} {b : Nat} {h : Heap} (V : Var h b [.int .i64 col]) :
    ACalls prog 35 #[rowV x, posV pl pc, pt b] h (fun y h' => y = .int .i64 (if befB pl col x = true then -1 else 1) ∧ Keeps h h') := by
  refine acalls_of_W' func35 rfl (by kernel_rfl) (by kernel_rfl) (by simp [ntmps35]) ?_
  intro H
  obtain ⟨ln, fr, to, fo⟩ := x
  have N1 := Keeps.new H 37 (cR ⟨ln, fr, to, fo⟩)
  have V1 := Var.new (e := 37) H (cs := cR ⟨ln, fr, to, fo⟩)
  have N2 := Keeps.new (Ch.wf N1) 32 [.int .i64 pl, .int .i64 pc]
  have V2 := Var.new (e := 32) (Ch.wf N1) (cs := [.int .i64 pl, .int .i64 pc])
  simp only [new_size] at V2
  have KK := N1.trans N2
  have V1 := Keeps.var (Ch.wf N1) N2 V1
  have V := Keeps.var H KK V
  have A0 := V1.load1 (P := prog) (t := 3) underlying3 rfl (i := 0)
  have A1 := V1.load1 (P := prog) (t := 3) underlying3 rfl (i := 1)
  have A3 := V1.load1 (P := prog) (t := 4) underlying4 rfl (i := 3)
  have B0 := V2.load1 (P := prog) (t := 3) underlying3 rfl (i := 0)
  have C0 := V.load1 (P := prog) (t := 3) underlying3 rfl (i := 0)
  simp only [cR, List.getElem?_cons_succ, List.getElem?_cons_zero] at A0 A1 A3 B0 C0
  by_cases c1 : ln < pl
  · have d1 := decide_eq_true c1
    simp (disch := omega) only [wk, wt, wl, ↓reduceIte, Nat.reduceEqDiff, Nat.reduceAdd, Nat.zero_add, not_false_eq_true, not_true_eq_false, aeff_box, boxV_row, boxV_pos, new_size, pt, cR, A0, A1, A3, B0, C0, d1]
    exact ⟨by simp [befB, d1], KK⟩
  · have d1 := decide_eq_false c1
    by_cases c2 : ln = pl
    · have d2 := decide_eq_true c2
      cases fo with
      | true =>
        simp (disch := omega) only [wk, wt, wl, ↓reduceIte, Nat.reduceEqDiff, Nat.reduceAdd, Nat.zero_add, not_false_eq_true, not_true_eq_false, aeff_box, boxV_row, boxV_pos, new_size, pt, cR, A0, A1, A3, B0, C0, d1, d2]
        exact ⟨by simp [befB, d2], KK⟩
      | false =>
        by_cases c3 : fr ≤ col
        · have d3 := decide_eq_true c3
          simp (disch := omega) only [wk, wt, wl, ↓reduceIte, Nat.reduceEqDiff, Nat.reduceAdd, Nat.zero_add, not_false_eq_true, not_true_eq_false, aeff_box, boxV_row, boxV_pos, new_size, pt, cR, A0, A1, A3, B0, C0, d1, d2, d3]
          exact ⟨by simp [befB, d2, d3], KK⟩
        · have d3 := decide_eq_false c3
          simp (disch := omega) only [wk, wt, wl, ↓reduceIte, Nat.reduceEqDiff, Nat.reduceAdd, Nat.zero_add, not_false_eq_true, not_true_eq_false, aeff_box, boxV_row, boxV_pos, new_size, pt, cR, A0, A1, A3, B0, C0, d1, d2, d3]
          exact ⟨by simp [befB, d1, d3], KK⟩
    · have d2 := decide_eq_false c2
      simp (disch := omega) only [wk, wt, wl, ↓reduceIte, Nat.reduceEqDiff, Nat.reduceAdd, Nat.zero_add, not_false_eq_true, not_true_eq_false, aeff_box, boxV_row, boxV_pos, new_size, pt, cR, A0, A1, A3, B0, C0, d1, d2]
      exact ⟨by simp [befB, d1, d2], KK⟩
/-- So many rows begin at a place or ahead of it; they are the first ones. -/
def Cut (rows : List Rw) (pl col : Int) (i : Nat) : Prop := i ≤ rows.length ∧ (∀ (j : Nat) x, j < i → rows[j]? = some x → befB pl col x = true) ∧ ∀ (j : Nat) x, i ≤ j → rows[j]? = some x → befB pl col x = false
def Mono (rows : List Rw) (pl col : Int) : Prop := ∀ (i j : Nat) x y, i ≤ j → rows[i]? = some x → rows[j]? = some y → befB pl col y = true → befB pl col x = true
theorem searchR_ok {v : Value} {rows : List Rw} {pl pc col : Int} {b : Nat} {h : Heap} (R : RR h v rows) (V : Var h b [.int .i64 col]) (M : Mono rows pl col) (hl : rows.length ≤ 1152921504606846976) :
    ACalls prog 34 #[v, posV pl pc, .func (.func 35) #[] #[pt b]] h
      (fun y h' => ∃ i : Nat, y = .tuple #[.int .i64 i, .bool false] ∧ Cut rows pl col i ∧ Keeps h h') := by
  refine acalls_of_W' func34 rfl (by kernel_rfl) (by kernel_rfl) (by simp [ntmps34]) ?_
  intro H
  have N1 := Keeps.new H 32 [.int .i64 pl, .int .i64 pc]
  have V1 := Var.new (e := 32) H (cs := [.int .i64 pl, .int .i64 pc])
  have R1 : RR _ v rows := RS.keeps R N1
  have VB := Keeps.var H N1 V
  have WL := fun {hh : Heap} (V : Var hh h.size [.int .i64 pl, .int .i64 pc]) => V.loadA (P := prog) (t := 32) underlying32 rfl asz32
  simp only [wk, wt, wl, ↓reduceIte, Nat.reduceEqDiff, Nat.reduceAdd, Nat.zero_add, not_false_eq_true, not_true_eq_false, aeff_box, boxV_pos, R1.len underlying28]
  generalize h.new 32 [.int .i64 pl, .int .i64 pc] = h1 at *
  refine W_loop (fun tm h' => Keeps h1 h' ∧ tm 0 = v ∧ tm 2 = .func (.func 35) #[] #[pt b] ∧ tm 4 = .pointer (some ⟨h.size, 0, none⟩) ∧ tm 8 = .int .i64 rows.length ∧ ∃ (i j : Nat), tm 9 = .int .i64 i ∧ tm 10 = .int .i64 j ∧ i ≤ j ∧ j ≤ rows.length ∧ (∀ (k : Nat) x, k < i → rows[k]? = some x → befB pl col x = true) ∧ (∀ (k : Nat) x, j ≤ k → rows[k]? = some x → befB pl col x = false))
    (fun tm _ => (intOf (tm 10) - intOf (tm 9)).toNat) ⟨Keeps.refl (Ch.wf N1), (by first | rfl | (simp only [wk, wt, wl, ↓reduceIte, Nat.reduceEqDiff, Nat.reduceAdd, Nat.zero_add, not_false_eq_true, not_true_eq_false]; done) | (simp only [wk, wt, wl, ↓reduceIte, Nat.reduceEqDiff, Nat.reduceAdd, Nat.zero_add, not_false_eq_true, not_true_eq_false]; rfl)), (by first | rfl | (simp only [wk, wt, wl, ↓reduceIte, Nat.reduceEqDiff, Nat.reduceAdd, Nat.zero_add, not_false_eq_true, not_true_eq_false]; done) | (simp only [wk, wt, wl, ↓reduceIte, Nat.reduceEqDiff, Nat.reduceAdd, Nat.zero_add, not_false_eq_true, not_true_eq_false]; rfl)), (by first | rfl | (simp only [wk, wt, wl, ↓reduceIte, Nat.reduceEqDiff, Nat.reduceAdd, Nat.zero_add, not_false_eq_true, not_true_eq_false]; done) | (simp only [wk, wt, wl, ↓reduceIte, Nat.reduceEqDiff, Nat.reduceAdd, Nat.zero_add, not_false_eq_true, not_true_eq_false]; rfl)), (by first | rfl | (simp only [wk, wt, wl, ↓reduceIte, Nat.reduceEqDiff, Nat.reduceAdd, Nat.zero_add, not_false_eq_true, not_true_eq_false]; done) | (simp only [wk, wt, wl, ↓reduceIte, Nat.reduceEqDiff, Nat.reduceAdd, Nat.zero_add, not_false_eq_true, not_true_eq_false]; rfl)), 0, rows.length, (by first | rfl | (simp only [wk, wt, wl, ↓reduceIte, Nat.reduceEqDiff, Nat.reduceAdd, Nat.zero_add, not_false_eq_true, not_true_eq_false]; done) | (simp only [wk, wt, wl, ↓reduceIte, Nat.reduceEqDiff, Nat.reduceAdd, Nat.zero_add, not_false_eq_true, not_true_eq_false]; rfl)), (by first | rfl | (simp only [wk, wt, wl, ↓reduceIte, Nat.reduceEqDiff, Nat.reduceAdd, Nat.zero_add, not_false_eq_true, not_true_eq_false]; done) | (simp only [wk, wt, wl, ↓reduceIte, Nat.reduceEqDiff, Nat.reduceAdd, Nat.zero_add, not_false_eq_true, not_true_eq_false]; rfl)), Nat.zero_le _, Nat.le_refl _, fun k f hk => by omega, fun k f hk hf => by have := (List.getElem?_eq_some_iff.1 hf).1; omega⟩ ?_
  rintro tm h' ⟨K, t0, t2, t4, t8, i, j, t9, t10, hij, hjl, hA, hB⟩
  have R' : RR h' v rows := RS.keeps R1 K
  have V1' := Keeps.var (Ch.wf N1) K V1
  have VB' := Keeps.var (Ch.wf N1) K VB
  simp only [wk, wt, wl, ↓reduceIte, Nat.reduceEqDiff, Nat.reduceAdd, Nat.zero_add, not_false_eq_true, not_true_eq_false, t0, t2, t4, t9, t10]
  refine condK_dec (fun hd => ?_) (fun hd => ?_)
  · obtain ⟨m, hm⟩ : ∃ m : Nat, m = (i + j) / 2 := ⟨_, rfl⟩
    have hm1 : ((i : Int) + j) / 2 = (m : Int) := by omega
    have hml : m < rows.length := by omega
    obtain ⟨x, hx⟩ : ∃ x, rows[m]? = some x := ⟨rows[m], by simp [hml]⟩
    obtain ⟨F0, F1, F2, F3, F4⟩ := RR.flds R' hx
    have IX := Rd.index R' underlying28 asz37 (q := .i64) (i := (m : Int)) (by omega) (by omega)
    simp only [Int.toNat_natCast] at IX
    simp (disch := omega) only [wk, wt, wl, ↓reduceIte, Nat.reduceEqDiff, Nat.reduceAdd, Nat.zero_add, not_false_eq_true, not_true_eq_false, t0, t2, t4, t9, t10, aconv, IntWalk.i64_in, IntWalk.u64_in, shr1, hm1]
    refine adraw_order [(0, false), (1, false), (2, false), (3, false), (4, false), (5, false), (6, true), (7, false)] mixed (by kernel_rfl) (by kernel_rfl) (by kernel_rfl) (by repeat (first | exact PF_retK | refine PF_thenK ?_ | refine PF_blockK ?_)) ?_
    simp (disch := omega) only [wk, wt, wl, ↓reduceIte, Nat.reduceEqDiff, Nat.reduceAdd, Nat.zero_add, not_false_eq_true, not_true_eq_false, t0, t2, t4, t9, t10, IX, F4, WL V1', callV_func, body35]
    refine (cmpR_ok (x := x) (pl := pl) (pc := pc) VB').use ?_
    rintro _ h2 ⟨rfl, K2⟩
    have K02 := K.trans K2
    by_cases hc : befB pl col x = true
    · have d1 : decide ((-1 : Int) < 0) = true := by decide
      rw [if_pos hc]
      simp (disch := omega) only [wk, wt, wl, ↓reduceIte, Nat.reduceEqDiff, Nat.reduceAdd, Nat.zero_add, not_false_eq_true, not_true_eq_false, dK_t, t0, t2, t4, t8, t9, t10, d1, IntWalk.i64_in, intOf_int]
      refine ⟨K2.reads (Ch.wf K), ?_⟩
      refine ⟨⟨K02, m + 1, j, by simp, rfl, by omega, hjl, fun k g hk hg => ?_, hB⟩, by omega⟩
      exact M k m g x (by omega) hg hx hc
    · have d1 : decide ((1 : Int) < 0) = false := by decide
      rw [if_neg hc]
      simp (disch := omega) only [wk, wt, wl, ↓reduceIte, Nat.reduceEqDiff, Nat.reduceAdd, Nat.zero_add, not_false_eq_true, not_true_eq_false, dK_t, t0, t2, t4, t8, t9, t10, d1, IntWalk.i64_in, intOf_int]
      refine ⟨K2.reads (Ch.wf K), ?_⟩
      refine ⟨⟨K02, i, m, rfl, rfl, by omega, by omega, hA, fun k g hk hg => ?_⟩, by omega⟩
      exact Bool.eq_false_iff.2 fun e => hc (M m k x g hk hx hg e)
  · have hije : i = j := by omega
    subst hije
    have fin : Cut rows pl col i := ⟨hjl, hA, hB⟩
    simp only [wk, wt, wl, ↓reduceIte, Nat.reduceEqDiff, Nat.reduceAdd, Nat.zero_add, not_false_eq_true, not_true_eq_false]
    refine adraw_order [(0, false), (1, false), (2, false), (3, false), (4, false), (5, false), (6, false), (7, false), (8, false), (9, false), (10, false), (11, true), (12, false), (13, false), (14, false), (15, false)] mixed (by kernel_rfl) (by kernel_rfl) (by kernel_rfl) (by repeat (first | exact PF_retK | refine PF_thenK ?_ | refine PF_blockK ?_)) ?_
    by_cases hil : i < rows.length
    · have d1 : decide ((i : Int) < rows.length) = true := decide_eq_true (by omega)
      obtain ⟨x, hx⟩ : ∃ x, rows[i]? = some x := ⟨rows[i], by simp [hil]⟩
      obtain ⟨F0, F1, F2, F3, F4⟩ := RR.flds R' hx
      have IX := Rd.index R' underlying28 asz37 (q := .i64) (i := (i : Int)) (by omega) (by omega)
      simp only [Int.toNat_natCast] at IX
      simp only [wk, wt, wl, ↓reduceIte, Nat.reduceEqDiff, Nat.reduceAdd, Nat.zero_add, not_false_eq_true, not_true_eq_false, t0, t2, t4, t8, t9, d1, IX, F4, WL V1', callV_func, body35]
      refine (cmpR_ok (x := x) (pl := pl) (pc := pc) VB').use ?_
      rintro _ h2 ⟨rfl, K2⟩
      have d2 : decide ((if befB pl col x = true then (-1 : Int) else 1) = 0) = false := decide_eq_false (by split <;> omega)
      simp only [wk, wt, wl, ↓reduceIte, Nat.reduceEqDiff, Nat.reduceAdd, Nat.zero_add, not_false_eq_true, not_true_eq_false, dK_t, d2]
      exact ⟨K2.reads (Ch.wf K), i, rfl, fin, N1.trans (K.trans K2)⟩
    · have d1 : decide ((i : Int) < rows.length) = false := decide_eq_false (by omega)
      simp only [wk, wt, wl, ↓reduceIte, Nat.reduceEqDiff, Nat.reduceAdd, Nat.zero_add, not_false_eq_true, not_true_eq_false, dK_t, t8, t9, d1]
      exact ⟨Keeps.reads (Ch.wf K) (Keeps.refl (Ch.wf K)), i, rfl, fin, N1.trans K⟩
end Go.Proofs.YtmjdebeikcogkaaDoor.Am
end
section
/- Views: which row shows a place: contracts of view.Find and of the document's Find, by walks. -/
set_option linter.unusedSimpArgs false
set_option linter.unusedVariables false
set_option maxHeartbeats 4000000
set_option maxRecDepth 20000
namespace Go.Proofs.YtmjdebeikcogkaaDoor.Am
open Go Go.RowKit Go.Proofs.Tryd
/-- The line of a place, and its column. -/
def lineAt (ls : List (List Int)) (pl : Int) : List Int := ls.getD (clipL ls pl).toNat []
def colAt (ls : List (List Int)) (tab pl pc : Int) : Int := if (lineAt ls pl).length = 0 then 0 else (colOf (unitsL (lineAt ls pl) tab) (clipC ls pl pc) 0).1
def NearR (rows : List Rw) : Prop := ∀ x, x ∈ rows → (-4398046511104 ≤ x.ln ∧ x.ln ≤ 4398046511104) ∧ (-4398046511104 ≤ x.fr ∧ x.fr ≤ 4398046511104) ∧ (-4398046511104 ≤ x.to ∧ x.to ≤ 4398046511104)
theorem colOf_range : ∀ {us : List U} {a c b d i : Int}, Chain a c us b d → 0 ≤ c → c ≤ (colOf us i c).1 ∧ (colOf us i c).1 ≤ d
  | _, _, _, _, _, _, .nil, _ => ⟨Int.le_refl _, Int.le_refl _⟩
  | _, _, c, _, d, i, .cons (u := u) (us := us) h1 h2 h3 h4 h5 h, h0 => by
    unfold colOf
    have ih := colOf_range (i := i) h (by omega)
    have hd : u.col + u.wd ≤ d := by omega
    split
    · simp only; omega
    · omega
theorem colOf_le {B i : Int} : ∀ {us : List U} {c : Int}, c ≤ B → (∀ u, u ∈ us → u.col + u.wd ≤ B ∧ 1 ≤ u.wd) → (colOf us i c).1 ≤ B
  | [], c, h, _ => h
  | u :: us, c, h, H => by
    have h1 := H u (by simp)
    unfold colOf
    split
    · simp only; omega
    · exact colOf_le h1.1 fun v hv => H v (by simp [hv])
theorem colAt_range {ls : List (List Int)} {tab pl pc : Int} (HT : TextOk ls) : 0 ≤ colAt ls tab pl pc ∧ colAt ls tab pl pc ≤ 640000 := by
  unfold colAt
  split
  · omega
  · obtain ⟨wd, hch, _⟩ := unitsL_chain (line := lineAt ls pl) (tab := tab)
    have hok := unitsL_ok (line := lineAt ls pl) (tab := tab)
    have h1 := colOf_range (i := clipC ls pl pc) hch (Int.le_refl _)
    have hlen : (lineAt ls pl).length ≤ 10000 := by
      unfold lineAt
      cases hx : ls[(clipL ls pl).toNat]? with
      | none => simp [List.getD, hx]
      | some xs => have := (HT _ _ hx).2; simpa [List.getD, hx] using this
    have h2 := hok.col1
    have h3 := colOf_le (i := clipC ls pl pc) (B := 640000) (us := unitsL (lineAt ls pl) tab) (c := 0) (by omega) fun u hu => by have := hok.each u hu; omega
    omega
def FindV (ls : List (List Int)) (rows : List Rw) (tab pl pc : Int) (a b : Int) : Prop :=
  (ls.length = 0 ∨ rows.length = 0) ∧ a = 0 ∧ b = 0 ∨ ls.length ≠ 0 ∧ ∃ i, Cut rows (clipL ls pl) (colAt ls tab pl pc) i ∧ (i = 0 ∧ a = 0 ∧ b = 0 ∨ ∃ x, 1 ≤ i ∧ rows[i - 1]? = some x ∧ a = i - 1 ∧ b = if x.fo = true then 0 else colAt ls tab pl pc - x.fr)
theorem viewFind_ok {v rv : Value} {ls : List (List Int)} {rows : List Rw} {tab pl pc : Int} {h : Heap} (T : LT h v ls) (R : RR h rv rows) (G : Gl h) (HT : TextOk ls) (hls : ls.length ≤ 1048576) (hl : rows.length ≤ 1152921504606846976) (NR : NearR rows)
    (M : Mono rows (clipL ls pl) (colAt ls tab pl pc)) :
    ACalls prog 14 #[v, rv, .int .i64 tab, posV pl pc] h (fun y h' => ∃ a b, y = .tuple #[.int .i64 a, .int .i64 b] ∧ FindV ls rows tab pl pc a b ∧ Keeps h h') := by
  refine acalls_of_W' func14 rfl (by kernel_rfl) (by kernel_rfl) (by simp [ntmps14]) ?_
  intro H
  have N1 := Keeps.new H 32 [.int .i64 pl, .int .i64 pc]
  have V1 := Var.new (e := 32) H (cs := [.int .i64 pl, .int .i64 pc])
  have T1 := T.keeps N1
  have R1 : RR _ rv rows := RS.keeps R N1
  have G1 := G.keeps N1
  have WL := fun {hh : Heap} {a b : Int} (V : Var hh h.size [.int .i64 a, .int .i64 b]) => V.loadA (P := prog) (t := 32) underlying32 rfl asz32
  have WP := fun {hh : Heap} {a b : Int} (V : Var hh h.size [.int .i64 a, .int .i64 b]) => And.intro (V.load1 (P := prog) (t := 3) underlying3 rfl (i := 0)) (V.load1 (P := prog) (t := 3) underlying3 rfl (i := 1))
  simp only [List.getElem?_cons_succ, List.getElem?_cons_zero] at WP
  have hlt := V1.lt (Ch.wf N1)
  by_cases h0 : ls.length = 0
  · have d0 : decide ((ls.length : Int) = 0) = true := decide_eq_true (by omega)
    simp (disch := omega) only [wk, wt, wl, ↓reduceIte, Nat.reduceEqDiff, Nat.reduceAdd, Nat.zero_add, not_false_eq_true, not_true_eq_false, aeff_box, boxV_pos, T1.len, d0]
    exact ⟨0, 0, rfl, .inl ⟨.inl h0, rfl, rfl⟩, N1⟩
  · have d0 : decide ((ls.length : Int) = 0) = false := decide_eq_false (by omega)
    by_cases h0' : rows.length = 0
    · have d0' : decide ((rows.length : Int) = 0) = true := decide_eq_true (by omega)
      simp (disch := omega) only [wk, wt, wl, ↓reduceIte, Nat.reduceEqDiff, Nat.reduceAdd, Nat.zero_add, not_false_eq_true, not_true_eq_false, aeff_box, boxV_pos, T1.len, R1.len underlying28, d0, d0']
      exact ⟨0, 0, rfl, .inl ⟨.inr h0', rfl, rfl⟩, N1⟩
    · have d0' : decide ((rows.length : Int) = 0) = false := decide_eq_false (by omega)
      simp (disch := omega) only [wk, wt, wl, ↓reduceIte, Nat.reduceEqDiff, Nat.reduceAdd, Nat.zero_add, not_false_eq_true, not_true_eq_false, aeff_box, boxV_pos, T1.len, R1.len underlying28, d0, d0', WL V1]
      generalize h.new 32 [.int .i64 pl, .int .i64 pc] = h1 at *
      refine (wordClip_ok (pl := pl) (pc := pc) T1 HT hls).use ?_
      rintro _ h2 ⟨rfl, K2⟩
      have V2 := Keeps.var (Ch.wf N1) K2 V1
      have K02 := N1.trans K2
      obtain ⟨h3, e3, V3, C3, z3⟩ := V2.store (P := prog) (t := 32) (v := .agg #[.int .i64 (clipL ls pl), .int .i64 (clipC ls pl pc)]) (i := 0) (Ch.wf K2) asz32 (by simp [Value.cells]) (by simp [Value.cells, one])
      have e3' : storeV prog h2 32 (.pointer (some ⟨h.size, 0, none⟩)) (posV (clipL ls pl) (clipC ls pl pc)) = some (undef, h3) := e3
      simp only [Value.cells, over_all (xs := [.int .i64 pl, .int .i64 pc]) (vs := [.int .i64 (clipL ls pl), .int .i64 (clipC ls pl pc)]) rfl] at V3
      have K03 := K02.step C3 fun b hb => by omega
      have hin := clipL_in (pl := pl) h0
      obtain ⟨i, xs, hfi, hil, hxs, hgd, hrn, hxl⟩ := HT.get (f := ⟨clipL ls pl, 0, false⟩) hin.1 hin.2
      simp only at hfi hgd
      have hla : lineAt ls pl = xs := hgd
      have N4 := Keeps.new (Ch.wf K03) 3 [Value.int IntKind.i64 0]
      have V4 := Var.new (e := 3) (Ch.wf K03) (cs := [Value.int IntKind.i64 0])
      obtain ⟨h4, e4, V5, C4, z4⟩ := V4.store1 (P := prog) (t := 3) (v := .int .i64 0) (i := 0) (Ch.wf N4) asz3 (by simp) rfl
      simp only [List.set_cons_zero] at V5
      have C34 := N4.step C4 (fun b e => by omega)
      have K04 := K03.trans C34
      have V34 := Keeps.var (Ch.wf K03) C34 V3
      have hlt3 := V3.lt (Ch.wf K03)
      have T4 := T.keeps K04
      obtain ⟨xv, A1, A2⟩ := T4.at hxs
      have W5 := fun {hh : Heap} {a : Int} (V : Var hh h3.size [.int .i64 a]) => V.load1 (P := prog) (t := 3) underlying3 rfl (i := 0)
      simp only [List.getElem?_cons_zero] at W5
      have WP4 := WP V34
      rw [hfi] at WP4
      simp (disch := omega) only [wk, wt, wl, ↓reduceIte, Nat.reduceEqDiff, Nat.reduceAdd, Nat.zero_add, not_false_eq_true, not_true_eq_false, e3', e4, WP4, T4.index hil, A1, A2.len underlying43]
      by_cases hx0 : xs.length = 0
      · have dx : decide ((0 : Int) < (xs.length : Int)) = false := decide_eq_false (by omega)
        have hcz : colAt ls tab pl pc = 0 := by unfold colAt; rw [hla, if_pos hx0]
        have VC := V5
        rw [← hcz] at VC
        simp (disch := omega) only [wk, wt, wl, ↓reduceIte, Nat.reduceEqDiff, Nat.reduceAdd, Nat.zero_add, not_false_eq_true, not_true_eq_false, dx]
        simp (disch := omega) only [wk, wt, wl, ↓reduceIte, Nat.reduceEqDiff, Nat.reduceAdd, Nat.zero_add, not_false_eq_true, not_true_eq_false, WL V34]
        refine (searchR_ok (pl := clipL ls pl) (pc := clipC ls pl pc) (RS.keeps R K04) VC M hl).use ?_
        rintro _ h7 ⟨j, rfl, cut, K7⟩
        have K07 := K04.trans K7
        have RF : RR h7 rv rows := RS.keeps R K07
        have VC7 := Keeps.var (Ch.wf K04) K7 VC
        by_cases hj : j = 0
        · have dj : decide ((j : Int) = 0) = true := decide_eq_true (by omega)
          simp (disch := omega) only [wk, wt, wl, ↓reduceIte, Nat.reduceEqDiff, Nat.reduceAdd, Nat.zero_add, not_false_eq_true, not_true_eq_false, dj]
          exact ⟨0, 0, rfl, .inr ⟨h0, j, cut, .inl ⟨hj, rfl, rfl⟩⟩, K07⟩
        · have dj : decide ((j : Int) = 0) = false := decide_eq_false (by omega)
          have hjl := cut.1
          obtain ⟨m, hm⟩ : ∃ m : Nat, j = m + 1 := ⟨j - 1, by omega⟩
          obtain ⟨x, hx⟩ : ∃ x, rows[m]? = some x := ⟨rows[m]'(by omega), List.getElem?_eq_getElem (by omega)⟩
          have wj : IntKind.i64.wrap ((j : Int) - 1) = (m : Int) := by rw [IntWalk.i64_in _ (by omega)]; omega
          obtain ⟨F0, F1, F2, F3, F4⟩ := RR.flds RF hx
          have IX := Rd.index RF underlying28 asz37 (q := .i64) (i := (m : Int)) (by omega) (by omega)
          simp only [Int.toNat_natCast] at IX
          have hcr := colAt_range HT (tab := tab) (pl := pl) (pc := pc)
          have hnr := NR x (List.mem_of_getElem? hx)
          cases hfo : x.fo with
          | true =>
            rw [hfo] at F3
            simp (disch := omega) only [wk, wt, wl, ↓reduceIte, Nat.reduceEqDiff, Nat.reduceAdd, Nat.zero_add, not_false_eq_true, not_true_eq_false, dj, wj, IX, F3]
            exact ⟨m, 0, rfl, .inr ⟨h0, j, cut, .inr ⟨x, by omega, by rw [hm]; exact hx, by omega, by rw [if_pos hfo]⟩⟩, K07⟩
          | false =>
            rw [hfo] at F3
            simp (disch := omega) only [wk, wt, wl, ↓reduceIte, Nat.reduceEqDiff, Nat.reduceAdd, Nat.zero_add, not_false_eq_true, not_true_eq_false, dj, wj, IX, F3]
            refine adraw_order [(0, false), (1, false), (2, false), (3, false), (4, false), (5, false), (6, false), (7, false), (8, false), (9, false)] mixed (by kernel_rfl) (by kernel_rfl) (by kernel_rfl) (by repeat (first | exact PF_retK | refine PF_thenK ?_ | refine PF_blockK ?_)) ?_
            simp (disch := omega) only [wk, wt, wl, ↓reduceIte, Nat.reduceEqDiff, Nat.reduceAdd, Nat.zero_add, not_false_eq_true, not_true_eq_false, dK_t, IX, F1, W5 VC7, IntWalk.i64_in]
            exact ⟨m, colAt ls tab pl pc - x.fr, rfl, .inr ⟨h0, j, cut, .inr ⟨x, by omega, by rw [hm]; exact hx, by omega, by rw [if_neg (by simp [hfo])]⟩⟩, K07⟩
      · have dx : decide ((0 : Int) < (xs.length : Int)) = true := decide_eq_true (by omega)
        have hcz : colAt ls tab pl pc = (colOf (unitsL xs tab) (clipC ls pl pc) 0).1 := by unfold colAt; rw [hla, if_neg hx0]
        simp (disch := omega) only [wk, wt, wl, ↓reduceIte, Nat.reduceEqDiff, Nat.reduceAdd, Nat.zero_add, not_false_eq_true, not_true_eq_false, dx, WP4]
        refine (col_ok (i := clipC ls pl pc) (tab := tab) A2 (G.keeps K04) hrn hxl).use ?_
        rintro _ h5 ⟨rfl, K5⟩
        have K05 := K04.trans K5
        have VP5 := Keeps.var (Ch.wf K04) K5 V34
        have VC5 := Keeps.var (Ch.wf K04) K5 V5
        obtain ⟨h6, e6, VC, C6, z6⟩ := VC5.store1 (P := prog) (t := 3) (v := .int .i64 (colOf (unitsL xs tab) (clipC ls pl pc) 0).1) (i := 0) (Ch.wf K5) asz3 (by simp) rfl
        simp only [List.set_cons_zero] at VC
        rw [← hcz] at VC
        have K06 := K05.step C6 fun b e => by omega
        have VP6 := Ch.var (Ch.wf K5) C6 VP5 (by omega)
        simp (disch := omega) only [wk, wt, wl, ↓reduceIte, Nat.reduceEqDiff, Nat.reduceAdd, Nat.zero_add, not_false_eq_true, not_true_eq_false, e6]
        simp (disch := omega) only [wk, wt, wl, ↓reduceIte, Nat.reduceEqDiff, Nat.reduceAdd, Nat.zero_add, not_false_eq_true, not_true_eq_false, WL VP6]
        refine (searchR_ok (pl := clipL ls pl) (pc := clipC ls pl pc) (RS.keeps R K06) VC M hl).use ?_
        rintro _ h7 ⟨j, rfl, cut, K7⟩
        have K07 := K06.trans K7
        have RF : RR h7 rv rows := RS.keeps R K07
        have VC7 := Keeps.var (Ch.wf K06) K7 VC
        by_cases hj : j = 0
        · have dj : decide ((j : Int) = 0) = true := decide_eq_true (by omega)
          simp (disch := omega) only [wk, wt, wl, ↓reduceIte, Nat.reduceEqDiff, Nat.reduceAdd, Nat.zero_add, not_false_eq_true, not_true_eq_false, dj]
          exact ⟨0, 0, rfl, .inr ⟨h0, j, cut, .inl ⟨hj, rfl, rfl⟩⟩, K07⟩
        · have dj : decide ((j : Int) = 0) = false := decide_eq_false (by omega)
          have hjl := cut.1
          obtain ⟨m, hm⟩ : ∃ m : Nat, j = m + 1 := ⟨j - 1, by omega⟩
          obtain ⟨x, hx⟩ : ∃ x, rows[m]? = some x := ⟨rows[m]'(by omega), List.getElem?_eq_getElem (by omega)⟩
          have wj : IntKind.i64.wrap ((j : Int) - 1) = (m : Int) := by rw [IntWalk.i64_in _ (by omega)]; omega
          obtain ⟨F0, F1, F2, F3, F4⟩ := RR.flds RF hx
          have IX := Rd.index RF underlying28 asz37 (q := .i64) (i := (m : Int)) (by omega) (by omega)
          simp only [Int.toNat_natCast] at IX
          have hcr := colAt_range HT (tab := tab) (pl := pl) (pc := pc)
          have hnr := NR x (List.mem_of_getElem? hx)
          cases hfo : x.fo with
          | true =>
            rw [hfo] at F3
            simp (disch := omega) only [wk, wt, wl, ↓reduceIte, Nat.reduceEqDiff, Nat.reduceAdd, Nat.zero_add, not_false_eq_true, not_true_eq_false, dj, wj, IX, F3]
            exact ⟨m, 0, rfl, .inr ⟨h0, j, cut, .inr ⟨x, by omega, by rw [hm]; exact hx, by omega, by rw [if_pos hfo]⟩⟩, K07⟩
          | false =>
            rw [hfo] at F3
            simp (disch := omega) only [wk, wt, wl, ↓reduceIte, Nat.reduceEqDiff, Nat.reduceAdd, Nat.zero_add, not_false_eq_true, not_true_eq_false, dj, wj, IX, F3]
            refine adraw_order [(0, false), (1, false), (2, false), (3, false), (4, false), (5, false), (6, false), (7, false), (8, false), (9, false)] mixed (by kernel_rfl) (by kernel_rfl) (by kernel_rfl) (by repeat (first | exact PF_retK | refine PF_thenK ?_ | refine PF_blockK ?_)) ?_
            simp (disch := omega) only [wk, wt, wl, ↓reduceIte, Nat.reduceEqDiff, Nat.reduceAdd, Nat.zero_add, not_false_eq_true, not_true_eq_false, dK_t, IX, F1, W5 VC7, IntWalk.i64_in]
            exact ⟨m, colAt ls tab pl pc - x.fr, rfl, .inr ⟨h0, j, cut, .inr ⟨x, by omega, by rw [hm]; exact hx, by omega, by rw [if_neg (by simp [hfo])]⟩⟩, K07⟩
end Go.Proofs.YtmjdebeikcogkaaDoor.Am
end
section
/- Views: which row shows a place: the contract of the document's Find, by a walk. -/
set_option linter.unusedSimpArgs false
set_option linter.unusedVariables false
set_option maxHeartbeats 4000000
set_option maxRecDepth 20000
namespace Go.Proofs.YtmjdebeikcogkaaDoor.Am
open Go Go.RowKit Go.Proofs.Tryd
/-- Is a row the one that shows a place? (z: the line has no rune.) -/
def matchB (pl col : Int) (z : Bool) (x : Rw) : Bool := (x.fo && decide (x.ln ≤ pl) && decide (pl < x.ln + x.to)) || (!x.fo && decide (x.ln = pl) && (z || (decide (x.fr ≤ col) && decide (col < x.to))))
def zB (ls : List (List Int)) (pl : Int) : Bool := decide ((lineAt ls pl).length = 0)
def FindR (ls : List (List Int)) (rows : List Rw) (tab pl pc : Int) (a b : Int) : Prop :=
  ls.length = 0 ∧ a = 0 ∧ b = 0 ∨ ls.length ≠ 0 ∧ ((∀ x, x ∈ rows → matchB (clipL ls pl) (colAt ls tab pl pc) (zB ls pl) x = false) ∧ a = 0 ∧ b = 0 ∨
    ∃ (i : Nat) (x : Rw), rows[i]? = some x ∧ (∀ (j : Nat) y, j < i → rows[j]? = some y → matchB (clipL ls pl) (colAt ls tab pl pc) (zB ls pl) y = false) ∧ matchB (clipL ls pl) (colAt ls tab pl pc) (zB ls pl) x = true ∧ a = i ∧ b = if x.fo = true then 0 else colAt ls tab pl pc - x.fr)
theorem refFind_ok {v rv : Value} {ls : List (List Int)} {rows : List Rw} {tab pl pc : Int} {h : Heap} (T : LT h v ls) (R : RR h rv rows) (HT : TextOk ls) (hls : ls.length ≤ 1048576) (hl : rows.length ≤ 1152921504606846976) (NR : NearR rows) :
    ACalls prog 15 #[v, rv, .int .i64 tab, posV pl pc] h (fun y h' => ∃ a b, y = .tuple #[.int .i64 a, .int .i64 b] ∧ FindR ls rows tab pl pc a b ∧ Keeps h h') := by
  refine acalls_of_W' func15 rfl (by kernel_rfl) (by kernel_rfl) (by simp [ntmps15]) ?_
  intro H
  have N1 := Keeps.new H 32 [.int .i64 pl, .int .i64 pc]
  have V1 := Var.new (e := 32) H (cs := [.int .i64 pl, .int .i64 pc])
  have T1 := T.keeps N1
  have WL := fun {hh : Heap} {a b : Int} (V : Var hh h.size [.int .i64 a, .int .i64 b]) => V.loadA (P := prog) (t := 32) underlying32 rfl asz32
  have WP := fun {hh : Heap} {a b : Int} (V : Var hh h.size [.int .i64 a, .int .i64 b]) => And.intro (V.load1 (P := prog) (t := 3) underlying3 rfl (i := 0)) (V.load1 (P := prog) (t := 3) underlying3 rfl (i := 1))
  simp only [List.getElem?_cons_succ, List.getElem?_cons_zero] at WP
  have hlt := V1.lt (Ch.wf N1)
  by_cases h0 : ls.length = 0
  · have d0 : decide ((ls.length : Int) = 0) = true := decide_eq_true (by omega)
    simp (disch := omega) only [wk, wt, wl, ↓reduceIte, Nat.reduceEqDiff, Nat.reduceAdd, Nat.zero_add, not_false_eq_true, not_true_eq_false, aeff_box, boxV_pos, T1.len, d0]
    exact ⟨0, 0, rfl, .inl ⟨h0, rfl, rfl⟩, N1⟩
  · have d0 : decide ((ls.length : Int) = 0) = false := decide_eq_false (by omega)
    simp (disch := omega) only [wk, wt, wl, ↓reduceIte, Nat.reduceEqDiff, Nat.reduceAdd, Nat.zero_add, not_false_eq_true, not_true_eq_false, aeff_box, boxV_pos, T1.len, d0, WL V1]
    generalize h.new 32 [.int .i64 pl, .int .i64 pc] = h1 at *
    refine (refClip_ok (pl := pl) (pc := pc) T1 HT hls).use ?_
    rintro _ h2 ⟨rfl, K2⟩
    have V2 := Keeps.var (Ch.wf N1) K2 V1
    have K02 := N1.trans K2
    obtain ⟨h3, e3, V3, C3, z3⟩ := V2.store (P := prog) (t := 32) (v := .agg #[.int .i64 (clipL ls pl), .int .i64 (clipC ls pl pc)]) (i := 0) (Ch.wf K2) asz32 (by simp [Value.cells]) (by simp [Value.cells, one])
    have e3' : storeV prog h2 32 (.pointer (some ⟨h.size, 0, none⟩)) (posV (clipL ls pl) (clipC ls pl pc)) = some (undef, h3) := e3
    simp only [Value.cells, over_all (xs := [.int .i64 pl, .int .i64 pc]) (vs := [.int .i64 (clipL ls pl), .int .i64 (clipC ls pl pc)]) rfl] at V3
    have K03 := K02.step C3 fun b hb => by omega
    have hin := clipL_in (pl := pl) h0
    obtain ⟨i, xs, hfi, hil, hxs, hgd, hrn, hxl⟩ := HT.get (f := ⟨clipL ls pl, 0, false⟩) hin.1 hin.2
    simp only at hfi hgd
    have hla : lineAt ls pl = xs := hgd
    have T3 := T.keeps K03
    obtain ⟨xv, A1x, A2x⟩ := T3.at hxs
    have WP3 := WP V3
    have WP3' := WP3
    rw [hfi] at WP3'
    have hcr := colAt_range HT (tab := tab) (pl := pl) (pc := pc)
    simp (disch := omega) only [wk, wt, wl, ↓reduceIte, Nat.reduceEqDiff, Nat.reduceAdd, Nat.zero_add, not_false_eq_true, not_true_eq_false, e3', WP3', T3.index hil, A1x, A2x.len underlying43]
    by_cases hx0 : xs.length = 0
    · have dx : decide ((0 : Int) < (xs.length : Int)) = false := decide_eq_false (by omega)
      have hcz : colAt ls tab pl pc = 0 := by unfold colAt; rw [hla, if_pos hx0]
      simp (disch := omega) only [wk, wt, wl, ↓reduceIte, Nat.reduceEqDiff, Nat.reduceAdd, Nat.zero_add, not_false_eq_true, not_true_eq_false, dx]
      obtain ⟨col, hcg⟩ : ∃ col, colAt ls tab pl pc = col := ⟨_, rfl⟩
      rw [hcg] at hcz hcr
      refine W_loop (fun tm h' => Keeps h3 h' ∧ tm 0 = v ∧ tm 1 = rv ∧ tm 7 = .pointer (some ⟨h.size, 0, none⟩) ∧ tm 10 = xv ∧ tm 11 = .int .i64 col ∧ ∃ i : Nat, tm 12 = .int .i64 i ∧ i ≤ rows.length ∧ ∀ (j : Nat) y, j < i → rows[j]? = some y → matchB (clipL ls pl) col (zB ls pl) y = false)
        (fun tm _ => (rows.length - intOf (tm 12)).toNat) ⟨Keeps.refl (Ch.wf K03), (by first | rfl | (simp only [wk, wt, wl, ↓reduceIte, Nat.reduceEqDiff, Nat.reduceAdd, Nat.zero_add, not_false_eq_true, not_true_eq_false]; done) | (simp only [wk, wt, wl, ↓reduceIte, Nat.reduceEqDiff, Nat.reduceAdd, Nat.zero_add, not_false_eq_true, not_true_eq_false]; rfl)), (by first | rfl | (simp only [wk, wt, wl, ↓reduceIte, Nat.reduceEqDiff, Nat.reduceAdd, Nat.zero_add, not_false_eq_true, not_true_eq_false]; done) | (simp only [wk, wt, wl, ↓reduceIte, Nat.reduceEqDiff, Nat.reduceAdd, Nat.zero_add, not_false_eq_true, not_true_eq_false]; rfl)), (by first | rfl | (simp only [wk, wt, wl, ↓reduceIte, Nat.reduceEqDiff, Nat.reduceAdd, Nat.zero_add, not_false_eq_true, not_true_eq_false]; done) | (simp only [wk, wt, wl, ↓reduceIte, Nat.reduceEqDiff, Nat.reduceAdd, Nat.zero_add, not_false_eq_true, not_true_eq_false]; rfl)), (by first | rfl | (simp only [wk, wt, wl, ↓reduceIte, Nat.reduceEqDiff, Nat.reduceAdd, Nat.zero_add, not_false_eq_true, not_true_eq_false]; done) | (simp only [wk, wt, wl, ↓reduceIte, Nat.reduceEqDiff, Nat.reduceAdd, Nat.zero_add, not_false_eq_true, not_true_eq_false]; rfl)), (show _ = Value.int .i64 (0) from (by first | rfl | (simp only [wk, wt, wl, ↓reduceIte, Nat.reduceEqDiff, Nat.reduceAdd, Nat.zero_add, not_false_eq_true, not_true_eq_false]; done) | (simp only [wk, wt, wl, ↓reduceIte, Nat.reduceEqDiff, Nat.reduceAdd, Nat.zero_add, not_false_eq_true, not_true_eq_false]; rfl))).trans (by rw [hcz]), 0, (by first | rfl | (simp only [wk, wt, wl, ↓reduceIte, Nat.reduceEqDiff, Nat.reduceAdd, Nat.zero_add, not_false_eq_true, not_true_eq_false]; done) | (simp only [wk, wt, wl, ↓reduceIte, Nat.reduceEqDiff, Nat.reduceAdd, Nat.zero_add, not_false_eq_true, not_true_eq_false]; rfl)), by omega, fun j y hj => by omega⟩ ?_
      rintro tm h' ⟨K, t0, t1, t7, t10, t11, i, t12, hi, hno⟩
      have KK := K03.trans K
      have R' : RR h' rv rows := RS.keeps R KK
      simp (disch := omega) only [wk, wt, wl, ↓reduceIte, Nat.reduceEqDiff, Nat.reduceAdd, Nat.zero_add, not_false_eq_true, not_true_eq_false, t0, t1, t7, t10, t11, t12, R'.len underlying28]
      refine condK_dec (fun hd => ?_) (fun hd => ?_)
      · have hi1 : i < rows.length := by omega
        obtain ⟨x, hx⟩ : ∃ x, rows[i]? = some x := ⟨rows[i], List.getElem?_eq_getElem hi1⟩
        obtain ⟨F0, F1, F2, F3, F4⟩ := RR.flds R' hx
        have IX := Rd.index R' underlying28 asz37 (q := .i64) (i := (i : Int)) (by omega) (by omega)
        simp only [Int.toNat_natCast] at IX
        have hnr := NR x (List.mem_of_getElem? hx)
        obtain ⟨ln, fr, to, fo⟩ := x
        simp only at F0 F1 F2 F3 F4 hnr
        simp (disch := omega) only [wk, wt, wl, ↓reduceIte, Nat.reduceEqDiff, Nat.reduceAdd, Nat.zero_add, not_false_eq_true, not_true_eq_false, t0, t1, t7, t10, t11, t12, IX, F4]
        have N4 := Keeps.new (Ch.wf K) 37 [Value.int IntKind.i64 0, Value.int IntKind.i64 0, Value.int IntKind.i64 0, Value.bool false]
        have V4 := Var.new (e := 37) (Ch.wf K) (cs := [Value.int IntKind.i64 0, Value.int IntKind.i64 0, Value.int IntKind.i64 0, Value.bool false])
        obtain ⟨h5, e5, Vf, C5, z5⟩ := V4.store (P := prog) (t := 37) (v := .agg #[.int .i64 ln, .int .i64 fr, .int .i64 to, .bool fo]) (i := 0) (Ch.wf N4) asz37 (by simp [Value.cells]) (by simp [Value.cells, one])
        rw [e5]; clear e5
        simp only [Value.cells, over_all (xs := [Value.int IntKind.i64 0, Value.int IntKind.i64 0, Value.int IntKind.i64 0, Value.bool false]) (vs := [.int .i64 ln, .int .i64 fr, .int .i64 to, .bool fo]) rfl] at Vf
        have K15 := N4.step C5 (fun b hb => by omega)
        clear N4 V4 C5
        have K5 := K.trans K15
        have VP5 := Keeps.var (Ch.wf K) K15 (Keeps.var (Ch.wf K03) K V3)
        have A0 := Vf.load1 (P := prog) (t := 3) underlying3 rfl (i := 0)
        have A1 := Vf.load1 (P := prog) (t := 3) underlying3 rfl (i := 1)
        have A2 := Vf.load1 (P := prog) (t := 3) underlying3 rfl (i := 2)
        have A3 := Vf.load1 (P := prog) (t := 4) underlying4 rfl (i := 3)
        have B0 := VP5.load1 (P := prog) (t := 3) underlying3 rfl (i := 0)
        simp only [List.getElem?_cons_succ, List.getElem?_cons_zero] at A0 A1 A2 A3 B0
        have ws : IntKind.i64.wrap (ln + to) = ln + to := IntWalk.i64_in _ (by omega)
        cases fo with
        | true =>
          by_cases c1 : ln ≤ clipL ls pl
          · have d1 := decide_eq_true c1
            by_cases c2 : clipL ls pl < ln + to
            · have d2 := decide_eq_true c2
              simp (disch := omega) only [wk, wt, wl, ↓reduceIte, Nat.reduceEqDiff, Nat.reduceAdd, Nat.zero_add, not_false_eq_true, not_true_eq_false, t0, t1, t7, t10, t11, t12, A0, A2, A3, B0, ws, d1, d2]
              exact ⟨i, 0, rfl, .inr ⟨h0, .inr ⟨i, _, hx, by rw [hcg]; exact hno, by rw [hcg]; simp [matchB, d1, d2], rfl, by simp⟩⟩, K03.trans K5⟩
            · have d2 := decide_eq_false c2
              simp (disch := omega) only [wk, wt, wl, ↓reduceIte, Nat.reduceEqDiff, Nat.reduceAdd, Nat.zero_add, not_false_eq_true, not_true_eq_false, t0, t1, t7, t10, t11, t12, A0, A2, A3, B0, ws, d1, d2, Bool.not_true]
              simp (disch := omega) only [wk, wt, wl, ↓reduceIte, Nat.reduceEqDiff, Nat.reduceAdd, Nat.zero_add, not_false_eq_true, not_true_eq_false, t0, t1, t7, t10, t11, t12, IntWalk.i64_in, intOf_int]
              exact ⟨⟨K5, i + 1, by simp, by omega, fun j y hj hy => by
                rcases Nat.lt_or_eq_of_le (Nat.lt_succ_iff.1 hj) with g | rfl
                · exact hno j y g hy
                · rw [hx] at hy; cases hy; simp [matchB, d1, d2]⟩, by omega⟩
          · have d1 := decide_eq_false c1
            simp (disch := omega) only [wk, wt, wl, ↓reduceIte, Nat.reduceEqDiff, Nat.reduceAdd, Nat.zero_add, not_false_eq_true, not_true_eq_false, t0, t1, t7, t10, t11, t12, A0, A2, A3, B0, ws, d1, Bool.not_true]
            simp (disch := omega) only [wk, wt, wl, ↓reduceIte, Nat.reduceEqDiff, Nat.reduceAdd, Nat.zero_add, not_false_eq_true, not_true_eq_false, t0, t1, t7, t10, t11, t12, IntWalk.i64_in, intOf_int]
            exact ⟨⟨K5, i + 1, by simp, by omega, fun j y hj hy => by
              rcases Nat.lt_or_eq_of_le (Nat.lt_succ_iff.1 hj) with g | rfl
              · exact hno j y g hy
              · rw [hx] at hy; cases hy; simp [matchB, d1]⟩, by omega⟩
        | false =>
          by_cases c1 : ln = clipL ls pl
          · have d1 := decide_eq_true c1
            by_cases cx : xs.length = 0
            · have dz : zB ls pl = true := by unfold zB; rw [hla]; exact decide_eq_true cx
              have dx : decide ((xs.length : Int) = 0) = true := decide_eq_true (by omega)
              simp (disch := omega) only [wk, wt, wl, ↓reduceIte, Nat.reduceEqDiff, Nat.reduceAdd, Nat.zero_add, not_false_eq_true, not_true_eq_false, t0, t1, t7, t10, t11, t12, A0, A1, A2, A3, B0, d1, dx, Bool.not_false, A2x.len underlying43]
              refine adraw_order [(0, false), (1, false), (2, false), (3, false), (4, false), (5, false), (6, false)] mixed (by kernel_rfl) (by kernel_rfl) (by kernel_rfl) (by repeat (first | exact PF_retK | refine PF_thenK ?_ | refine PF_blockK ?_)) ?_
              simp (disch := omega) only [wk, wt, wl, ↓reduceIte, Nat.reduceEqDiff, Nat.reduceAdd, Nat.zero_add, not_false_eq_true, not_true_eq_false, dK_t, t0, t1, t7, t10, t11, t12, A0, A1, A2, A3, B0, IntWalk.i64_in]
              exact ⟨i, col - fr, rfl, .inr ⟨h0, .inr ⟨i, _, hx, by rw [hcg]; exact hno, by rw [hcg]; simp [matchB, d1, dz], rfl, by rw [hcg]; simp⟩⟩, K03.trans K5⟩
            · have dz : zB ls pl = false := by unfold zB; rw [hla]; exact decide_eq_false cx
              have dx : decide ((xs.length : Int) = 0) = false := decide_eq_false (by omega)
              by_cases c2 : fr ≤ col
              · have d2 := decide_eq_true c2
                by_cases c3 : col < to
                · have d3 := decide_eq_true c3
                  simp (disch := omega) only [wk, wt, wl, ↓reduceIte, Nat.reduceEqDiff, Nat.reduceAdd, Nat.zero_add, not_false_eq_true, not_true_eq_false, t0, t1, t7, t10, t11, t12, A0, A1, A2, A3, B0, d1, d2, d3, dx, Bool.not_false, A2x.len underlying43]
                  refine adraw_order [(0, false), (1, false), (2, false), (3, false), (4, false), (5, false), (6, false)] mixed (by kernel_rfl) (by kernel_rfl) (by kernel_rfl) (by repeat (first | exact PF_retK | refine PF_thenK ?_ | refine PF_blockK ?_)) ?_
                  simp (disch := omega) only [wk, wt, wl, ↓reduceIte, Nat.reduceEqDiff, Nat.reduceAdd, Nat.zero_add, not_false_eq_true, not_true_eq_false, dK_t, t0, t1, t7, t10, t11, t12, A0, A1, A2, A3, B0, IntWalk.i64_in]
                  exact ⟨i, col - fr, rfl, .inr ⟨h0, .inr ⟨i, _, hx, by rw [hcg]; exact hno, by rw [hcg]; simp [matchB, d1, d2, d3, dz], rfl, by rw [hcg]; simp⟩⟩, K03.trans K5⟩
                · have d3 := decide_eq_false c3
                  simp (disch := omega) only [wk, wt, wl, ↓reduceIte, Nat.reduceEqDiff, Nat.reduceAdd, Nat.zero_add, not_false_eq_true, not_true_eq_false, t0, t1, t7, t10, t11, t12, A0, A1, A2, A3, B0, d1, d2, d3, dx, Bool.not_false, A2x.len underlying43]
                  simp (disch := omega) only [wk, wt, wl, ↓reduceIte, Nat.reduceEqDiff, Nat.reduceAdd, Nat.zero_add, not_false_eq_true, not_true_eq_false, t0, t1, t7, t10, t11, t12, IntWalk.i64_in, intOf_int]
                  exact ⟨⟨K5, i + 1, by simp, by omega, fun j y hj hy => by
                    rcases Nat.lt_or_eq_of_le (Nat.lt_succ_iff.1 hj) with g | rfl
                    · exact hno j y g hy
                    · rw [hx] at hy; cases hy; simp [matchB, d1, d2, d3, dz]⟩, by omega⟩
              · have d2 := decide_eq_false c2
                simp (disch := omega) only [wk, wt, wl, ↓reduceIte, Nat.reduceEqDiff, Nat.reduceAdd, Nat.zero_add, not_false_eq_true, not_true_eq_false, t0, t1, t7, t10, t11, t12, A0, A1, A2, A3, B0, d1, d2, dx, Bool.not_false, A2x.len underlying43]
                simp (disch := omega) only [wk, wt, wl, ↓reduceIte, Nat.reduceEqDiff, Nat.reduceAdd, Nat.zero_add, not_false_eq_true, not_true_eq_false, t0, t1, t7, t10, t11, t12, IntWalk.i64_in, intOf_int]
                exact ⟨⟨K5, i + 1, by simp, by omega, fun j y hj hy => by
                  rcases Nat.lt_or_eq_of_le (Nat.lt_succ_iff.1 hj) with g | rfl
                  · exact hno j y g hy
                  · rw [hx] at hy; cases hy; simp [matchB, d1, d2, dz]⟩, by omega⟩
          · have d1 := decide_eq_false c1
            simp (disch := omega) only [wk, wt, wl, ↓reduceIte, Nat.reduceEqDiff, Nat.reduceAdd, Nat.zero_add, not_false_eq_true, not_true_eq_false, t0, t1, t7, t10, t11, t12, A0, A1, A2, A3, B0, d1, Bool.not_false]
            simp (disch := omega) only [wk, wt, wl, ↓reduceIte, Nat.reduceEqDiff, Nat.reduceAdd, Nat.zero_add, not_false_eq_true, not_true_eq_false, t0, t1, t7, t10, t11, t12, IntWalk.i64_in, intOf_int]
            exact ⟨⟨K5, i + 1, by simp, by omega, fun j y hj hy => by
              rcases Nat.lt_or_eq_of_le (Nat.lt_succ_iff.1 hj) with g | rfl
              · exact hno j y g hy
              · rw [hx] at hy; cases hy; simp [matchB, d1]⟩, by omega⟩
      · have hall : ∀ x, x ∈ rows → matchB (clipL ls pl) col (zB ls pl) x = false := fun x hx => by
          obtain ⟨j, hj, e⟩ := List.getElem_of_mem hx
          exact hno j x (by omega) (by rw [← e]; exact List.getElem?_eq_getElem hj)
        simp (disch := omega) only [wk, wt, wl, ↓reduceIte, Nat.reduceEqDiff, Nat.reduceAdd, Nat.zero_add, not_false_eq_true, not_true_eq_false]
        exact ⟨0, 0, rfl, .inr ⟨h0, .inl ⟨by rw [hcg]; exact hall, rfl, rfl⟩⟩, KK⟩
    · have dx : decide ((0 : Int) < (xs.length : Int)) = true := decide_eq_true (by omega)
      have hcz : colAt ls tab pl pc = (colOf (unitsL xs tab) (clipC ls pl pc) 0).1 := by unfold colAt; rw [hla, if_neg hx0]
      simp (disch := omega) only [wk, wt, wl, ↓reduceIte, Nat.reduceEqDiff, Nat.reduceAdd, Nat.zero_add, not_false_eq_true, not_true_eq_false, dx, WP3]
      refine (refCol_ok (i := clipC ls pl pc) (tab := tab) A2x hrn hxl).use ?_
      rintro _ h5 ⟨rfl, K5⟩
      have K05 := K03.trans K5
      have VP5 := Keeps.var (Ch.wf K03) K5 V3
      simp (disch := omega) only [wk, wt, wl, ↓reduceIte, Nat.reduceEqDiff, Nat.reduceAdd, Nat.zero_add, not_false_eq_true, not_true_eq_false]
      clear WP3 WP3' T1 T3 
      have A2x := A2x.keeps K5
      obtain ⟨col, hcg⟩ : ∃ col, colAt ls tab pl pc = col := ⟨_, rfl⟩
      rw [hcg] at hcz hcr
      refine W_loop (fun tm h' => Keeps h5 h' ∧ tm 0 = v ∧ tm 1 = rv ∧ tm 7 = .pointer (some ⟨h.size, 0, none⟩) ∧ tm 10 = xv ∧ tm 11 = .int .i64 col ∧ ∃ i : Nat, tm 12 = .int .i64 i ∧ i ≤ rows.length ∧ ∀ (j : Nat) y, j < i → rows[j]? = some y → matchB (clipL ls pl) col (zB ls pl) y = false)
        (fun tm _ => (rows.length - intOf (tm 12)).toNat) ⟨Keeps.refl (Ch.wf K05), (by first | rfl | (simp only [wk, wt, wl, ↓reduceIte, Nat.reduceEqDiff, Nat.reduceAdd, Nat.zero_add, not_false_eq_true, not_true_eq_false]; done) | (simp only [wk, wt, wl, ↓reduceIte, Nat.reduceEqDiff, Nat.reduceAdd, Nat.zero_add, not_false_eq_true, not_true_eq_false]; rfl)), (by first | rfl | (simp only [wk, wt, wl, ↓reduceIte, Nat.reduceEqDiff, Nat.reduceAdd, Nat.zero_add, not_false_eq_true, not_true_eq_false]; done) | (simp only [wk, wt, wl, ↓reduceIte, Nat.reduceEqDiff, Nat.reduceAdd, Nat.zero_add, not_false_eq_true, not_true_eq_false]; rfl)), (by first | rfl | (simp only [wk, wt, wl, ↓reduceIte, Nat.reduceEqDiff, Nat.reduceAdd, Nat.zero_add, not_false_eq_true, not_true_eq_false]; done) | (simp only [wk, wt, wl, ↓reduceIte, Nat.reduceEqDiff, Nat.reduceAdd, Nat.zero_add, not_false_eq_true, not_true_eq_false]; rfl)), (by first | rfl | (simp only [wk, wt, wl, ↓reduceIte, Nat.reduceEqDiff, Nat.reduceAdd, Nat.zero_add, not_false_eq_true, not_true_eq_false]; done) | (simp only [wk, wt, wl, ↓reduceIte, Nat.reduceEqDiff, Nat.reduceAdd, Nat.zero_add, not_false_eq_true, not_true_eq_false]; rfl)), (show _ = Value.int .i64 ((colOf (unitsL xs tab) (clipC ls pl pc) 0).1) from (by first | rfl | (simp only [wk, wt, wl, ↓reduceIte, Nat.reduceEqDiff, Nat.reduceAdd, Nat.zero_add, not_false_eq_true, not_true_eq_false]; done) | (simp only [wk, wt, wl, ↓reduceIte, Nat.reduceEqDiff, Nat.reduceAdd, Nat.zero_add, not_false_eq_true, not_true_eq_false]; rfl))).trans (by rw [hcz]), 0, (by first | rfl | (simp only [wk, wt, wl, ↓reduceIte, Nat.reduceEqDiff, Nat.reduceAdd, Nat.zero_add, not_false_eq_true, not_true_eq_false]; done) | (simp only [wk, wt, wl, ↓reduceIte, Nat.reduceEqDiff, Nat.reduceAdd, Nat.zero_add, not_false_eq_true, not_true_eq_false]; rfl)), by omega, fun j y hj => by omega⟩ ?_
      rintro tm h' ⟨K, t0, t1, t7, t10, t11, i, t12, hi, hno⟩
      have KK := K05.trans K
      have R' : RR h' rv rows := RS.keeps R KK
      simp (disch := omega) only [wk, wt, wl, ↓reduceIte, Nat.reduceEqDiff, Nat.reduceAdd, Nat.zero_add, not_false_eq_true, not_true_eq_false, t0, t1, t7, t10, t11, t12, R'.len underlying28]
      refine condK_dec (fun hd => ?_) (fun hd => ?_)
      · have hi1 : i < rows.length := by omega
        obtain ⟨x, hx⟩ : ∃ x, rows[i]? = some x := ⟨rows[i], List.getElem?_eq_getElem hi1⟩
        obtain ⟨F0, F1, F2, F3, F4⟩ := RR.flds R' hx
        have IX := Rd.index R' underlying28 asz37 (q := .i64) (i := (i : Int)) (by omega) (by omega)
        simp only [Int.toNat_natCast] at IX
        have hnr := NR x (List.mem_of_getElem? hx)
        obtain ⟨ln, fr, to, fo⟩ := x
        simp only at F0 F1 F2 F3 F4 hnr
        simp (disch := omega) only [wk, wt, wl, ↓reduceIte, Nat.reduceEqDiff, Nat.reduceAdd, Nat.zero_add, not_false_eq_true, not_true_eq_false, t0, t1, t7, t10, t11, t12, IX, F4]
        have N4 := Keeps.new (Ch.wf K) 37 [Value.int IntKind.i64 0, Value.int IntKind.i64 0, Value.int IntKind.i64 0, Value.bool false]
        have V4 := Var.new (e := 37) (Ch.wf K) (cs := [Value.int IntKind.i64 0, Value.int IntKind.i64 0, Value.int IntKind.i64 0, Value.bool false])
        obtain ⟨h5, e5, Vf, C5, z5⟩ := V4.store (P := prog) (t := 37) (v := .agg #[.int .i64 ln, .int .i64 fr, .int .i64 to, .bool fo]) (i := 0) (Ch.wf N4) asz37 (by simp [Value.cells]) (by simp [Value.cells, one])
        rw [e5]; clear e5
        simp only [Value.cells, over_all (xs := [Value.int IntKind.i64 0, Value.int IntKind.i64 0, Value.int IntKind.i64 0, Value.bool false]) (vs := [.int .i64 ln, .int .i64 fr, .int .i64 to, .bool fo]) rfl] at Vf
        have K15 := N4.step C5 (fun b hb => by omega)
        clear N4 V4 C5
        have K5 := K.trans K15
        have VP5 := Keeps.var (Ch.wf K) K15 (Keeps.var (Ch.wf K05) K VP5)
        have A0 := Vf.load1 (P := prog) (t := 3) underlying3 rfl (i := 0)
        have A1 := Vf.load1 (P := prog) (t := 3) underlying3 rfl (i := 1)
        have A2 := Vf.load1 (P := prog) (t := 3) underlying3 rfl (i := 2)
        have A3 := Vf.load1 (P := prog) (t := 4) underlying4 rfl (i := 3)
        have B0 := VP5.load1 (P := prog) (t := 3) underlying3 rfl (i := 0)
        simp only [List.getElem?_cons_succ, List.getElem?_cons_zero] at A0 A1 A2 A3 B0
        have ws : IntKind.i64.wrap (ln + to) = ln + to := IntWalk.i64_in _ (by omega)
        cases fo with
        | true =>
          by_cases c1 : ln ≤ clipL ls pl
          · have d1 := decide_eq_true c1
            by_cases c2 : clipL ls pl < ln + to
            · have d2 := decide_eq_true c2
              simp (disch := omega) only [wk, wt, wl, ↓reduceIte, Nat.reduceEqDiff, Nat.reduceAdd, Nat.zero_add, not_false_eq_true, not_true_eq_false, t0, t1, t7, t10, t11, t12, A0, A2, A3, B0, ws, d1, d2]
              exact ⟨i, 0, rfl, .inr ⟨h0, .inr ⟨i, _, hx, by rw [hcg]; exact hno, by rw [hcg]; simp [matchB, d1, d2], rfl, by simp⟩⟩, K05.trans K5⟩
            · have d2 := decide_eq_false c2
              simp (disch := omega) only [wk, wt, wl, ↓reduceIte, Nat.reduceEqDiff, Nat.reduceAdd, Nat.zero_add, not_false_eq_true, not_true_eq_false, t0, t1, t7, t10, t11, t12, A0, A2, A3, B0, ws, d1, d2, Bool.not_true]
              simp (disch := omega) only [wk, wt, wl, ↓reduceIte, Nat.reduceEqDiff, Nat.reduceAdd, Nat.zero_add, not_false_eq_true, not_true_eq_false, t0, t1, t7, t10, t11, t12, IntWalk.i64_in, intOf_int]
              exact ⟨⟨K5, i + 1, by simp, by omega, fun j y hj hy => by
                rcases Nat.lt_or_eq_of_le (Nat.lt_succ_iff.1 hj) with g | rfl
                · exact hno j y g hy
                · rw [hx] at hy; cases hy; simp [matchB, d1, d2]⟩, by omega⟩
          · have d1 := decide_eq_false c1
            simp (disch := omega) only [wk, wt, wl, ↓reduceIte, Nat.reduceEqDiff, Nat.reduceAdd, Nat.zero_add, not_false_eq_true, not_true_eq_false, t0, t1, t7, t10, t11, t12, A0, A2, A3, B0, ws, d1, Bool.not_true]
            simp (disch := omega) only [wk, wt, wl, ↓reduceIte, Nat.reduceEqDiff, Nat.reduceAdd, Nat.zero_add, not_false_eq_true, not_true_eq_false, t0, t1, t7, t10, t11, t12, IntWalk.i64_in, intOf_int]
            exact ⟨⟨K5, i + 1, by simp, by omega, fun j y hj hy => by
              rcases Nat.lt_or_eq_of_le (Nat.lt_succ_iff.1 hj) with g | rfl
              · exact hno j y g hy
              · rw [hx] at hy; cases hy; simp [matchB, d1]⟩, by omega⟩
        | false =>
          by_cases c1 : ln = clipL ls pl
          · have d1 := decide_eq_true c1
            by_cases cx : xs.length = 0
            · have dz : zB ls pl = true := by unfold zB; rw [hla]; exact decide_eq_true cx
              have dx : decide ((xs.length : Int) = 0) = true := decide_eq_true (by omega)
              simp (disch := omega) only [wk, wt, wl, ↓reduceIte, Nat.reduceEqDiff, Nat.reduceAdd, Nat.zero_add, not_false_eq_true, not_true_eq_false, t0, t1, t7, t10, t11, t12, A0, A1, A2, A3, B0, d1, dx, Bool.not_false, A2x.len underlying43]
              refine adraw_order [(0, false), (1, false), (2, false), (3, false), (4, false), (5, false), (6, false)] mixed (by kernel_rfl) (by kernel_rfl) (by kernel_rfl) (by repeat (first | exact PF_retK | refine PF_thenK ?_ | refine PF_blockK ?_)) ?_
              simp (disch := omega) only [wk, wt, wl, ↓reduceIte, Nat.reduceEqDiff, Nat.reduceAdd, Nat.zero_add, not_false_eq_true, not_true_eq_false, dK_t, t0, t1, t7, t10, t11, t12, A0, A1, A2, A3, B0, IntWalk.i64_in]
              exact ⟨i, col - fr, rfl, .inr ⟨h0, .inr ⟨i, _, hx, by rw [hcg]; exact hno, by rw [hcg]; simp [matchB, d1, dz], rfl, by rw [hcg]; simp⟩⟩, K05.trans K5⟩
            · have dz : zB ls pl = false := by unfold zB; rw [hla]; exact decide_eq_false cx
              have dx : decide ((xs.length : Int) = 0) = false := decide_eq_false (by omega)
              by_cases c2 : fr ≤ col
              · have d2 := decide_eq_true c2
                by_cases c3 : col < to
                · have d3 := decide_eq_true c3
                  simp (disch := omega) only [wk, wt, wl, ↓reduceIte, Nat.reduceEqDiff, Nat.reduceAdd, Nat.zero_add, not_false_eq_true, not_true_eq_false, t0, t1, t7, t10, t11, t12, A0, A1, A2, A3, B0, d1, d2, d3, dx, Bool.not_false, A2x.len underlying43]
                  refine adraw_order [(0, false), (1, false), (2, false), (3, false), (4, false), (5, false), (6, false)] mixed (by kernel_rfl) (by kernel_rfl) (by kernel_rfl) (by repeat (first | exact PF_retK | refine PF_thenK ?_ | refine PF_blockK ?_)) ?_
                  simp (disch := omega) only [wk, wt, wl, ↓reduceIte, Nat.reduceEqDiff, Nat.reduceAdd, Nat.zero_add, not_false_eq_true, not_true_eq_false, dK_t, t0, t1, t7, t10, t11, t12, A0, A1, A2, A3, B0, IntWalk.i64_in]
                  exact ⟨i, col - fr, rfl, .inr ⟨h0, .inr ⟨i, _, hx, by rw [hcg]; exact hno, by rw [hcg]; simp [matchB, d1, d2, d3, dz], rfl, by rw [hcg]; simp⟩⟩, K05.trans K5⟩
                · have d3 := decide_eq_false c3
                  simp (disch := omega) only [wk, wt, wl, ↓reduceIte, Nat.reduceEqDiff, Nat.reduceAdd, Nat.zero_add, not_false_eq_true, not_true_eq_false, t0, t1, t7, t10, t11, t12, A0, A1, A2, A3, B0, d1, d2, d3, dx, Bool.not_false, A2x.len underlying43]
                  simp (disch := omega) only [wk, wt, wl, ↓reduceIte, Nat.reduceEqDiff, Nat.reduceAdd, Nat.zero_add, not_false_eq_true, not_true_eq_false, t0, t1, t7, t10, t11, t12, IntWalk.i64_in, intOf_int]
                  exact ⟨⟨K5, i + 1, by simp, by omega, fun j y hj hy => by
                    rcases Nat.lt_or_eq_of_le (Nat.lt_succ_iff.1 hj) with g | rfl
                    · exact hno j y g hy
                    · rw [hx] at hy; cases hy; simp [matchB, d1, d2, d3, dz]⟩, by omega⟩
              · have d2 := decide_eq_false c2
                simp (disch := omega) only [wk, wt, wl, ↓reduceIte, Nat.reduceEqDiff, Nat.reduceAdd, Nat.zero_add, not_false_eq_true, not_true_eq_false, t0, t1, t7, t10, t11, t12, A0, A1, A2, A3, B0, d1, d2, dx, Bool.not_false, A2x.len underlying43]
                simp (disch := omega) only [wk, wt, wl, ↓reduceIte, Nat.reduceEqDiff, Nat.reduceAdd, Nat.zero_add, not_false_eq_true, not_true_eq_false, t0, t1, t7, t10, t11, t12, IntWalk.i64_in, intOf_int]
                exact ⟨⟨K5, i + 1, by simp, by omega, fun j y hj hy => by
                  rcases Nat.lt_or_eq_of_le (Nat.lt_succ_iff.1 hj) with g | rfl
                  · exact hno j y g hy
                  · rw [hx] at hy; cases hy; simp [matchB, d1, d2, dz]⟩, by omega⟩
          · have d1 := decide_eq_false c1
            simp (disch := omega) only [wk, wt, wl, ↓reduceIte, Nat.reduceEqDiff, Nat.reduceAdd, Nat.zero_add, not_false_eq_true, not_true_eq_false, t0, t1, t7, t10, t11, t12, A0, A1, A2, A3, B0, d1, Bool.not_false]
            simp (disch := omega) only [wk, wt, wl, ↓reduceIte, Nat.reduceEqDiff, Nat.reduceAdd, Nat.zero_add, not_false_eq_true, not_true_eq_false, t0, t1, t7, t10, t11, t12, IntWalk.i64_in, intOf_int]
            exact ⟨⟨K5, i + 1, by simp, by omega, fun j y hj hy => by
              rcases Nat.lt_or_eq_of_le (Nat.lt_succ_iff.1 hj) with g | rfl
              · exact hno j y g hy
              · rw [hx] at hy; cases hy; simp [matchB, d1]⟩, by omega⟩
      · have hall : ∀ x, x ∈ rows → matchB (clipL ls pl) col (zB ls pl) x = false := fun x hx => by
          obtain ⟨j, hj, e⟩ := List.getElem_of_mem hx
          exact hno j x (by omega) (by rw [← e]; exact List.getElem?_eq_getElem hj)
        simp (disch := omega) only [wk, wt, wl, ↓reduceIte, Nat.reduceEqDiff, Nat.reduceAdd, Nat.zero_add, not_false_eq_true, not_true_eq_false]
        exact ⟨0, 0, rfl, .inr ⟨h0, .inl ⟨by rw [hcg]; exact hall, rfl, rfl⟩⟩, KK⟩
end Go.Proofs.YtmjdebeikcogkaaDoor.Am
end
section
/- Views: the rows of a text, in plain terms: which of them shows a place; no program is walked. -/
set_option linter.unusedSimpArgs false
set_option linter.unusedVariables false
set_option maxHeartbeats 4000000
namespace Go.Proofs.YtmjdebeikcogkaaDoor.Am
open Go Go.RowKit Go.Proofs.Tryd
/-- Rows of a line that part its columns. -/
inductive Tiles : Int → Int → List (Int × Int) → Prop
  | one {a b : Int} (h : a < b) : Tiles a b [(a, b)]
  | cons {a m b : Int} {l : List (Int × Int)} (h : a < m) (t : Tiles m b l) : Tiles a b ((a, m) :: l)
theorem Tiles.lt {a b : Int} {l : List (Int × Int)} (H : Tiles a b l) : a < b := by
  induction H with
  | one h => exact h
  | cons h t ih => omega
theorem Tiles.mem {a b : Int} {l : List (Int × Int)} (H : Tiles a b l) : ∀ p, p ∈ l → a ≤ p.1 ∧ p.1 < p.2 ∧ p.2 ≤ b := by
  induction H with
  | one h => intro p hp; simp at hp; subst hp; exact ⟨Int.le_refl _, h, Int.le_refl _⟩
  | @cons a m b l h t ih =>
    have := t.lt
    intro p hp
    rcases List.mem_cons.1 hp with rfl | hp
    · exact ⟨Int.le_refl _, h, by simp only; omega⟩
    · have := ih p hp; omega
theorem Tiles.split {a b c : Int} {l : List (Int × Int)} (H : Tiles a b l) : a ≤ c → c < b → ∃ P m k S, l = P ++ (m, k) :: S ∧ (∀ p, p ∈ P → p.1 < p.2 ∧ p.2 ≤ c) ∧ m ≤ c ∧ c < k ∧ ∀ p, p ∈ S → c < p.1 := by
  induction H with
  | @one a b h => intro h1 h2; exact ⟨[], a, b, [], rfl, fun p hp => by simp at hp, h1, h2, fun p hp => by simp at hp⟩
  | @cons a m b l h t ih =>
    intro h1 h2
    by_cases g : c < m
    · exact ⟨[], a, m, l, rfl, fun p hp => by simp at hp, h1, g, fun p hp => by have := t.mem p hp; omega⟩
    · obtain ⟨P, m', k, S, rfl, g1, g2, g3, g4⟩ := ih (by omega) h2
      refine ⟨(a, m) :: P, m', k, S, rfl, fun p hp => ?_, g2, g3, g4⟩
      rcases List.mem_cons.1 hp with rfl | hp
      · exact ⟨h, by simp only; omega⟩
      · exact g1 p hp
theorem rowsG_tiles {cols : Int} {wrap : Bool} : ∀ {us : List U} {a b t e f : Int}, Chain a t us b e → f < t → Tiles f e (rowsG cols wrap us f t)
  | _, _, _, _, _, _, .nil, h => .one h
  | _, _, _, t, e, f, .cons (u := u) (us := us) h1 h2 h3 h4 h5 h, hf => by
    rw [rowsG]
    split
    · exact rowsG_tiles h (by omega)
    · have := rowsG_tiles (cols := cols) (wrap := wrap) (f := u.col) h (by omega)
      rw [← h3] at hf
      rw [← h3]
      exact .cons hf this
theorem rowsL_tiles {line : List Int} {tab cols : Int} {wrap : Bool} (h : line.length ≠ 0) : Tiles 0 (endOf (unitsL line tab) 0) (rowsG cols wrap (unitsL line tab) 0 0) := by
  obtain ⟨w, H, e⟩ := unitsL_chain (line := line) (tab := tab)
  rw [← e]
  generalize unitsL line tab = us at H
  generalize hn : (line.length : Int) = n at H
  have hn0 : n ≠ 0 := by omega
  cases H with
  | nil => exact absurd rfl hn0
  | cons h1 h2 h3 h4 h5 h =>
    rw [rowsG, if_pos (.inr (.inl h3))]
    exact rowsG_tiles h (by omega)
theorem rowsL_nil {line : List Int} {tab cols : Int} {wrap : Bool} (h : line.length = 0) : rowsG cols wrap (unitsL line tab) 0 0 = [(0, 0)] := by
  have hl := (unitsL_ok (line := line) (tab := tab)).len
  rw [List.eq_nil_of_length_eq_zero (l := unitsL line tab) (by omega)]; rfl
theorem colOf_lt {i : Int} : ∀ {us : List U} {a c b d : Int}, Chain a c us b d → i < b → a < b → (colOf us i c).1 < d
  | _, _, _, _, _, .nil, _, h => absurd h (by omega)
  | _, a, c, b, d, .cons (u := u) (us := us) h1 h2 h3 h4 h5 h, hi, hab => by
    unfold colOf
    have hcd : u.col + u.wd ≤ d := by
      have : ∀ {us : List U} {a c b d : Int}, Chain a c us b d → c ≤ d := by
        intro us a c b d H
        induction H with
        | nil => exact Int.le_refl _
        | cons h1 h2 h3 h4 h5 h ih => omega
      exact this h
    split
    · simp only; omega
    · rename_i hn
      refine colOf_lt h hi ?_
      have : ∀ {us : List U} {a c b d : Int}, Chain a c us b d → a ≤ b := by
        intro us a c b d H
        induction H with
        | nil => exact Int.le_refl _
        | cons h1 h2 h3 h4 h5 h ih => omega
      have := this h
      omega
theorem rowsR_split {l : List F} {n i : Int} {r : List F} (H : RowsR l n i r) {x : Int} : 0 ≤ i → i ≤ x → x < n → ∃ A f C, r = A ++ f :: C ∧ (∀ g, g ∈ A → g.fr ≤ g.to ∧ g.to < x) ∧ f.fr ≤ x ∧ x ≤ f.to ∧ 0 ≤ f.fr ∧ (f.cl = false → f.to = f.fr) ∧ ∀ g, g ∈ C → x < g.fr := by
  induction H with
  | done h => intro _ h1 h2; omega
  | @step i r h t ih =>
    intro h0 h1 h2
    have hnx : i + 1 ≤ nextZ1 l i ∧ ((shutF l i).isSome = false → nextZ1 l i = i + 1) := by
      unfold nextZ1
      rcases shownZ_range (l := l) (x := i) with e | ⟨k, g, q, _, _, _, g1, g2, e⟩
      · rw [e]; exact ⟨Int.le_refl _, fun _ => rfl⟩
      · rw [e]; exact ⟨by simp only; omega, fun q' => by rw [q] at q'; cases q'⟩
    by_cases hx : x < nextZ1 l i
    · refine ⟨[], _, r, rfl, fun g hg => by simp at hg, h1, ?_, h0, fun hc => ?_, fun g hg => ?_⟩
      · simp only; split <;> omega
      · have := hnx.2 hc; simp only; split <;> omega
      · have := rowsR_in t (by omega) g hg; omega
    · obtain ⟨A, f, C, rfl, g1, g2, g3, g4, g5, g6⟩ := ih (by omega) (by omega) h2
      refine ⟨_ :: A, f, C, rfl, fun g hg => ?_, g2, g3, g4, g5, g6⟩
      rcases List.mem_cons.1 hg with rfl | hg
      · simp only; split <;> omega
      · exact g1 g hg
theorem rowsOf_cl {ls : List (List Int)} {cols tab : Int} {wrap : Bool} {f : F} (h : f.cl = true) : rowsOf ls cols tab wrap f = [⟨f.fr, 0, f.to + 1 - f.fr, true⟩] := by simp [rowsOf, h]
theorem rowsOf_op {ls : List (List Int)} {cols tab : Int} {wrap : Bool} {f : F} (h : f.cl = false) : rowsOf ls cols tab wrap f = (rowsG (colsZ cols) wrap (unitsL (ls.getD f.fr.toNat []) tab) 0 0).map (mkR f.fr) := by simp [rowsOf, h]
/-- A row of the rows of a line or a closed fold. -/
theorem rowsOf_mem {ls : List (List Int)} {cols tab : Int} {wrap : Bool} {f : F} {x : Rw} (hx : x ∈ rowsOf ls cols tab wrap f) : x.ln = f.fr ∧ (x.fo = true → x.to = f.to + 1 - f.fr ∧ f.cl = true ∧ x.fr = 0) ∧ (x.fo = false → f.cl = false ∧ 0 ≤ x.fr ∧ x.fr ≤ x.to ∧ x.to ≤ 64 * (ls.getD f.fr.toNat []).length) := by
  cases hc : f.cl with
  | true => rw [rowsOf_cl hc] at hx; simp at hx; subst hx; exact ⟨rfl, fun _ => ⟨rfl, rfl, rfl⟩, fun h => by cases h⟩
  | false =>
    rw [rowsOf_op hc] at hx
    obtain ⟨p, hp, rfl⟩ := List.mem_map.1 hx
    refine ⟨rfl, (fun h => by cases h), fun _ => ⟨rfl, ?_⟩⟩
    generalize ls.getD f.fr.toNat [] = line at *
    by_cases h0 : line.length = 0
    · rw [rowsL_nil h0] at hp; simp at hp; subst hp; simp [mkR]; omega
    · have h1 := (rowsL_tiles (tab := tab) (cols := colsZ cols) (wrap := wrap) h0).mem p hp
      have h2 : endOf (unitsL line tab) 0 ≤ 64 * line.length := by
        obtain ⟨w, H, e⟩ := unitsL_chain (line := line) (tab := tab)
        have hok := unitsL_ok (line := line) (tab := tab)
        have hc1 := hok.col1
        have := colOf_all (line := line) (tab := tab)
        have h3 := colOf_le (i := line.length) (B := 64 * line.length) (us := unitsL line tab) (c := 0) (by omega) fun u hu => by have := hok.each u hu; omega
        rw [this] at h3; exact h3
      simp only [mkR]; omega
theorem viewL_near {ls : List (List Int)} (HT : TextOk ls) {cols tab : Int} {wrap : Bool} {l r : List F} (H : RowsR l ls.length 0 r) (hls : ls.length ≤ 1048576) : NearR (viewL ls cols tab wrap r) := by
  intro x hx
  obtain ⟨f, hf, hx⟩ := List.mem_flatMap.1 hx
  have h1 := rowsR_in H (Int.le_refl _) f hf
  obtain ⟨m1, m2, m3⟩ := rowsOf_mem hx
  have hlen : (ls.getD f.fr.toNat []).length ≤ 10000 := by
    cases hx : ls[f.fr.toNat]? with
    | none => simp [List.getD, hx]
    | some xs => have := (HT _ _ hx).2; simpa [List.getD, hx] using this
  cases hfo : x.fo with
  | true => obtain ⟨a, _, b⟩ := m2 hfo; omega
  | false => obtain ⟨_, a, b, c⟩ := m3 hfo; omega
theorem at_mid {α : Type} {X Y : List α} {x : α} : (X ++ x :: Y)[X.length]? = some x := by simp
theorem at_pre {α : Type} {X Y : List α} {x y : α} {j : Nat} (hj : j < X.length) (h : (X ++ x :: Y)[j]? = some y) : y ∈ X := by
  rw [List.getElem?_append_left hj] at h; exact List.mem_of_getElem? h
theorem at_post {α : Type} {X Y : List α} {x y : α} {j : Nat} (hj : X.length < j) (h : (X ++ x :: Y)[j]? = some y) : y ∈ Y := by
  rw [List.getElem?_append_right (by omega), show j - X.length = (j - X.length - 1) + 1 by omega, List.getElem?_cons_succ] at h
  exact List.mem_of_getElem? h
/-- The row that shows a place. -/
structure Showing (ls : List (List Int)) (rows : List Rw) (tab pl pc : Int) (i : Nat) (x : Rw) : Prop where
  at_ : rows[i]? = some x
  cut : Cut rows (clipL ls pl) (colAt ls tab pl pc) (i + 1)
  mono : Mono rows (clipL ls pl) (colAt ls tab pl pc)
  first : ∀ (j : Nat) y, j < i → rows[j]? = some y → matchB (clipL ls pl) (colAt ls tab pl pc) (zB ls pl) y = false
  hit : matchB (clipL ls pl) (colAt ls tab pl pc) (zB ls pl) x = true
  fold : x.fo = true → x.ln ≤ clipL ls pl ∧ clipL ls pl < x.ln + x.to
  line : x.fo = false → x.ln = clipL ls pl ∧ x.fr ≤ colAt ls tab pl pc ∧ (colAt ls tab pl pc < x.to ∨ colAt ls tab pl pc = x.fr ∧ x.to = x.fr)
theorem showing_of {ls : List (List Int)} {rows : List Rw} {tab pl pc : Int} {X Y : List Rw} {x : Rw} (e : rows = X ++ x :: Y) (hX : ∀ y, y ∈ X → befB (clipL ls pl) (colAt ls tab pl pc) y = true ∧ matchB (clipL ls pl) (colAt ls tab pl pc) (zB ls pl) y = false)
    (hx : befB (clipL ls pl) (colAt ls tab pl pc) x = true) (hit : matchB (clipL ls pl) (colAt ls tab pl pc) (zB ls pl) x = true) (hY : ∀ y, y ∈ Y → befB (clipL ls pl) (colAt ls tab pl pc) y = false)
    (fold : x.fo = true → x.ln ≤ clipL ls pl ∧ clipL ls pl < x.ln + x.to) (line : x.fo = false → x.ln = clipL ls pl ∧ x.fr ≤ colAt ls tab pl pc ∧ (colAt ls tab pl pc < x.to ∨ colAt ls tab pl pc = x.fr ∧ x.to = x.fr)) : Showing ls rows tab pl pc X.length x := by
  subst e
  have c1 : ∀ (j : Nat) y, j < X.length + 1 → (X ++ x :: Y)[j]? = some y → befB (clipL ls pl) (colAt ls tab pl pc) y = true := fun j y hj hy => by
    rcases Nat.lt_or_eq_of_le (Nat.lt_succ_iff.1 hj) with g | rfl
    · exact (hX y (at_pre g hy)).1
    · rw [at_mid] at hy; cases hy; exact hx
  have c2 : ∀ (j : Nat) y, X.length + 1 ≤ j → (X ++ x :: Y)[j]? = some y → befB (clipL ls pl) (colAt ls tab pl pc) y = false := fun j y hj hy => hY y (at_post (by omega) hy)
  refine ⟨at_mid, ⟨by simp, c1, c2⟩, fun i j y z hij hy hz hb => ?_, fun j y hj hy => (hX y (at_pre hj hy)).2, hit, fold, line⟩
  by_cases g : j < X.length + 1
  · exact c1 i y (by omega) hy
  · rw [c2 j z (by omega) hz] at hb; cases hb
theorem view_showing {ls : List (List Int)} (HT : TextOk ls) {cols tab : Int} {wrap : Bool} {l r : List F} (H : RowsR l ls.length 0 r) (h0 : ls.length ≠ 0) (pl pc : Int) : ∃ i x, Showing ls (viewL ls cols tab wrap r) tab pl pc i x := by
  have hin := clipL_in (pl := pl) h0
  obtain ⟨A, f, C, rfl, g1, g2, g3, g3', g4, g5⟩ := rowsR_split H (Int.le_refl _) hin.1 hin.2
  have hA : ∀ y, y ∈ viewL ls cols tab wrap A → befB (clipL ls pl) (colAt ls tab pl pc) y = true ∧ matchB (clipL ls pl) (colAt ls tab pl pc) (zB ls pl) y = false := fun y hy => by
    obtain ⟨g, hg, hy⟩ := List.mem_flatMap.1 hy
    obtain ⟨m1, m2, m3⟩ := rowsOf_mem hy
    have hg1 := g1 g hg
    have d1 : decide (y.ln < clipL ls pl) = true := decide_eq_true (by omega)
    have d2 : decide (y.ln = clipL ls pl) = false := decide_eq_false (by omega)
    refine ⟨by simp [befB, d1], ?_⟩
    cases hfo : y.fo with
    | true =>
      obtain ⟨e, _⟩ := m2 hfo
      have d3 : decide (clipL ls pl < y.ln + y.to) = false := decide_eq_false (by omega)
      simp [matchB, hfo, d3]
    | false => simp [matchB, hfo, d2]
  have hC : ∀ y, y ∈ viewL ls cols tab wrap C → befB (clipL ls pl) (colAt ls tab pl pc) y = false := fun y hy => by
    obtain ⟨g, hg, hy⟩ := List.mem_flatMap.1 hy
    obtain ⟨m1, m2, m3⟩ := rowsOf_mem hy
    have hg1 := g5 g hg
    have d1 : decide (y.ln < clipL ls pl) = false := decide_eq_false (by omega)
    have d2 : decide (y.ln = clipL ls pl) = false := decide_eq_false (by omega)
    simp [befB, d1, d2]
  have hv : viewL ls cols tab wrap (A ++ f :: C) = viewL ls cols tab wrap A ++ (rowsOf ls cols tab wrap f ++ viewL ls cols tab wrap C) := by simp [viewL]
  cases hc : f.cl with
  | true =>
    rw [rowsOf_cl hc] at hv
    refine ⟨_, _, showing_of (by rw [hv]; rfl) hA ?_ ?_ hC (fun _ => by simp only; omega) (fun h => by cases h)⟩
    · have : (decide (f.fr < clipL ls pl) || decide (f.fr = clipL ls pl)) = true := by
        rcases Int.lt_or_eq_of_le g2 with g | g
        · simp [g]
        · simp [g]
      simp only [befB, Bool.true_or, Bool.and_true]; exact this
    · have d1 : decide (f.fr ≤ clipL ls pl) = true := decide_eq_true g2
      have d2 : decide (clipL ls pl < f.fr + (f.to + 1 - f.fr)) = true := decide_eq_true (by omega)
      simp [matchB, d1, d2]
  | false =>
    have hft := g4 hc
    have hfl : f.fr = clipL ls pl := by omega
    have hla : ls.getD f.fr.toNat [] = lineAt ls pl := by rw [hfl]; rfl
    rw [rowsOf_op hc, hla] at hv
    have hmk : ∀ p : Int × Int, befB (clipL ls pl) (colAt ls tab pl pc) (mkR f.fr p) = decide (p.1 ≤ colAt ls tab pl pc) := fun p => by simp [befB, mkR, hfl]
    have hmm : ∀ p : Int × Int, matchB (clipL ls pl) (colAt ls tab pl pc) (zB ls pl) (mkR f.fr p) = (zB ls pl || (decide (p.1 ≤ colAt ls tab pl pc) && decide (colAt ls tab pl pc < p.2))) := fun p => by simp [matchB, mkR, hfl]
    by_cases hz : (lineAt ls pl).length = 0
    · rw [rowsL_nil hz] at hv
      have hcz : colAt ls tab pl pc = 0 := by unfold colAt; rw [if_pos hz]
      have hzb : zB ls pl = true := by unfold zB; exact decide_eq_true hz
      refine ⟨_, mkR f.fr (0, 0), showing_of (by rw [hv]; rfl) hA ?_ ?_ hC (fun h => by cases h) (fun _ => ?_)⟩
      · rw [hmk, hcz]; rfl
      · rw [hmm, hzb]; rfl
      · rw [hcz]; simp [mkR, hfl]
    · have hcz : colAt ls tab pl pc = (colOf (unitsL (lineAt ls pl) tab) (clipC ls pl pc) 0).1 := by unfold colAt; rw [if_neg hz]
      have hzb : zB ls pl = false := by unfold zB; exact decide_eq_false hz
      obtain ⟨w, hch, hw⟩ := unitsL_chain (line := lineAt ls pl) (tab := tab)
      have hcc : clipC ls pl pc < (lineAt ls pl).length := by
        have : clipC ls pl pc = imax (imin pc ((lineAt ls pl).length - 1)) 0 := by unfold clipC lineAt; rw [if_neg h0]
        rw [this]
        have := imin_spec pc (((lineAt ls pl).length : Int) - 1)
        have := imax_spec (imin pc (((lineAt ls pl).length : Int) - 1)) 0
        omega
      have c1 := (colOf_range (i := clipC ls pl pc) hch (Int.le_refl _)).1
      have c2 := colOf_lt (i := clipC ls pl pc) hch hcc (by omega)
      rw [← hcz] at c1 c2
      rw [hw] at c2
      obtain ⟨P, m, k, S, e, p1, p2, p3, p4⟩ := (rowsL_tiles (tab := tab) (cols := colsZ cols) (wrap := wrap) hz).split c1 c2
      rw [e] at hv
      refine ⟨_, mkR f.fr (m, k), showing_of (X := viewL ls cols tab wrap A ++ P.map (mkR f.fr)) (Y := S.map (mkR f.fr) ++ viewL ls cols tab wrap C) (by rw [hv]; simp) (fun y hy => ?_) ?_ ?_ (fun y hy => ?_) (fun h => by cases h) (fun _ => ?_)⟩
      · rcases List.mem_append.1 hy with hy | hy
        · exact hA y hy
        · obtain ⟨p, hp, rfl⟩ := List.mem_map.1 hy
          have := p1 p hp
          rw [hmk, hmm, hzb]
          have d1 : decide (p.1 ≤ colAt ls tab pl pc) = true := decide_eq_true (by omega)
          have d2 : decide (colAt ls tab pl pc < p.2) = false := decide_eq_false (by omega)
          simp [d1, d2]
      · rw [hmk]; exact decide_eq_true p2
      · rw [hmm, hzb, decide_eq_true p2, decide_eq_true p3]; rfl
      · rcases List.mem_append.1 hy with hy | hy
        · obtain ⟨p, hp, rfl⟩ := List.mem_map.1 hy
          have := p4 p hp
          rw [hmk]; exact decide_eq_false (by omega)
        · exact hC y hy
      · exact ⟨hfl, p2, .inl p3⟩
theorem Cut.uniq {rows : List Rw} {pl col : Int} {i j : Nat} (h : Cut rows pl col i) (k : Cut rows pl col j) : i = j := by
  have : ∀ {i j : Nat}, Cut rows pl col i → Cut rows pl col j → ¬ i < j := fun {i j} h k hlt => by
    have hj : i < rows.length := by have := k.1; omega
    have e : rows[i]? = some rows[i] := List.getElem?_eq_getElem hj
    have h1 := k.2.1 i _ hlt e
    have h2 := h.2.2 i _ (Nat.le_refl _) e
    rw [h1] at h2; cases h2
  have h1 := this h k
  have h2 := this k h
  omega
theorem findV_at {ls : List (List Int)} {rows : List Rw} {tab pl pc a b : Int} {i : Nat} {x : Rw} (h0 : ls.length ≠ 0) (S : Showing ls rows tab pl pc i x) (H : FindV ls rows tab pl pc a b) : a = i ∧ b = if x.fo = true then 0 else colAt ls tab pl pc - x.fr := by
  rcases H with ⟨h | h, _⟩ | ⟨_, j, hc, h⟩
  · exact absurd h h0
  · have := (List.getElem?_eq_some_iff.1 S.at_).1; omega
  · obtain rfl := hc.uniq S.cut
    rcases h with ⟨h, _⟩ | ⟨y, _, hy, ha, hb⟩
    · omega
    · have := S.at_
      simp only [Nat.add_sub_cancel] at hy
      rw [this] at hy; cases hy
      exact ⟨by omega, hb⟩
theorem findR_at {ls : List (List Int)} {rows : List Rw} {tab pl pc a b : Int} {i : Nat} {x : Rw} (h0 : ls.length ≠ 0) (S : Showing ls rows tab pl pc i x) (H : FindR ls rows tab pl pc a b) : a = i ∧ b = if x.fo = true then 0 else colAt ls tab pl pc - x.fr := by
  rcases H with ⟨h, _⟩ | ⟨_, ⟨h, _⟩ | ⟨j, y, hy, hno, hm, ha, hb⟩⟩
  · exact absurd h h0
  · have := h x (List.mem_of_getElem? S.at_); rw [S.hit] at this; cases this
  · have h1 : ¬ j < i := fun g => by have := S.first j y g hy; rw [hm] at this; cases this
    have h2 : ¬ i < j := fun g => by have := hno i x g S.at_; rw [S.hit] at this; cases this
    obtain rfl : j = i := by omega
    rw [S.at_] at hy; cases hy
    exact ⟨ha, hb⟩
end Go.Proofs.YtmjdebeikcogkaaDoor.Am
end
section
/- Views: the contract of chapter 19's examples (awake), by a walk; ViewRows told of abstract memory: it answers true. -/
set_option linter.unusedSimpArgs false
set_option linter.unusedVariables false
set_option maxHeartbeats 4000000
set_option maxRecDepth 20000
namespace Go.Proofs.YtmjdebeikcogkaaDoor.Am
open Go Go.RowKit Go.Proofs.Tryd
theorem RowsR.mk1 {l : List F} {n i j : Int} {e : F} {r : List F} (h : i < n) (hj : nextZ1 l i = j) (he : e = ⟨i, (if n < j then n else j) - 1, (shutF l i).isSome⟩) (t : RowsR l n j r) : RowsR l n i (e :: r) := by
  subst he; subst hj; exact .step h t
theorem rowsNone : RowsR (rightOr []) 1 0 [⟨0, 0, false⟩] := by
  have e : rightOr [] = [] := rfl
  rw [e]
  exact RowsR.mk1 (by decide) rfl rfl (.done (by decide))
theorem viewA : viewL [[97, 98, 99, 100, 101]] 3 8 true [⟨0, 0, false⟩] = [⟨0, 0, 3, false⟩, ⟨0, 3, 5, false⟩] := by kernel_rfl
theorem runesA : Conv.runesFrom ⟨#[97, 98, 99, 100, 101]⟩ (ByteArray.size ⟨#[97, 98, 99, 100, 101]⟩) 0 #[] = (([97, 98, 99, 100, 101] : List Int).map (Value.int .i32)).toArray := by kernel_rfl
theorem isR_small {xs : List Int} (h : ∀ x, x ∈ xs → 0 ≤ x ∧ x < 128) : ∀ j, isR (xs.getD j 0) := fun j => by
  cases hx : xs[j]? with
  | none => simp [List.getD, hx, isR]
  | some x => have := h x (List.mem_of_getElem? hx); simp [List.getD, hx, isR]; omega
theorem awake_ok {h : Heap} (G : Gl h) : ACalls prog 13 #[] h (fun v h' => v = .bool true ∧ Keeps h h') := by
  refine acalls_of_W' func13 rfl (by kernel_rfl) (by kernel_rfl) (by simp [ntmps13]) ?_
  intro H
  simp only [wk, wt, wl, ↓reduceIte, Nat.reduceEqDiff, Nat.reduceAdd, Nat.zero_add, not_false_eq_true, not_true_eq_false]
  refine (row_ok runesA (by simp)).use ?_
  rintro xv h1 ⟨RX, K1⟩
  simp only [wk, wt, wl, ↓reduceIte, Nat.reduceEqDiff, Nat.reduceAdd, Nat.zero_add, not_false_eq_true, not_true_eq_false, build1 underlying22 asz43 azero43 rfl RX.one]
  have N2 := Keeps.new (Ch.wf K1) 43 [xv]
  have K12 := K1.trans N2
  have T : LT (h1.new 43 [xv]) (.slice (some ⟨h1.size, 0, none⟩) 1 2) [[97, 98, 99, 100, 101]] := ⟨[xv], rfl, Rd.new (Ch.wf K1) asz43 rfl, fun i x xs hx hl => by
    cases i with
    | zero => simp at hx hl; subst hx; subst hl; exact RX.keeps N2
    | succ i => simp at hx⟩
  have HT : TextOk [[97, 98, 99, 100, 101]] := fun i xs hx => by
    cases i with
    | zero => simp at hx; subst hx; exact ⟨isR_small (by decide), by decide⟩
    | succ i => simp at hx
  have G2 := G.keeps K12
  generalize h1.new 43 [xv] = h2 at *
  refine (viewRows_ok (cols := 3) (tab := 8) (wrap := true) (l := []) T Rd.nil0 G2 HT (by decide) (by decide) rfl).use ?_
  rintro rv h3 ⟨r, hrows, _, RV, K3, _⟩
  have hrr : r = [⟨0, 0, false⟩] := hrows.det rowsNone
  subst hrr
  have hnear := viewL_near HT (cols := 3) (tab := 8) (wrap := true) hrows (by decide)
  obtain ⟨i, x, S⟩ := view_showing HT (cols := 3) (tab := 8) (wrap := true) hrows (by decide) 0 4
  rw [viewA] at RV hnear S
  have hcol : colAt [[97, 98, 99, 100, 101]] 8 0 4 = 4 := by kernel_rfl
  have hcl : clipL [[97, 98, 99, 100, 101]] 0 = 0 := by kernel_rfl
  have hi : i = 1 ∧ x = ⟨0, 3, 5, false⟩ := by
    have h1 := S.at_
    have h2 := S.line
    rw [hcol, hcl] at h2
    match i, h1 with
    | 0, h1 => simp at h1; subst h1; have := h2 rfl; simp at this
    | 1, h1 => simp at h1; exact ⟨rfl, h1.symm⟩
    | i + 2, h1 => simp at h1
  obtain ⟨rfl, rfl⟩ := hi
  have K13 := K12.trans K3
  simp (disch := omega) only [wk, wt, wl, ↓reduceIte, Nat.reduceEqDiff, Nat.reduceAdd, Nat.zero_add, not_false_eq_true, not_true_eq_false, build_p1]
  refine (viewFind_ok (pl := 0) (pc := 4) (tab := 8) (T.keeps K3) RV (G2.keeps K3) HT (by decide) (by decide) hnear S.mono).use ?_
  rintro _ h4 ⟨a, b, rfl, HF, K4⟩
  obtain ⟨ha, hb⟩ := findV_at (by decide) S HF
  have ha : a = 1 := ha
  have hb : b = 1 := by rw [hb, hcol]; rfl
  subst ha; subst hb
  have K14 := K13.trans K4
  have R4 : RR h4 rv _ := RS.keeps RV K4
  simp (disch := omega) only [wk, wt, wl, ↓reduceIte, Nat.reduceEqDiff, Nat.reduceAdd, Nat.zero_add, not_false_eq_true, not_true_eq_false, Bool.false_eq_true]
  refine (viewShown_ok (top := 1) (height := 2) R4 (by decide) (by decide)).use ?_
  rintro sv h5 ⟨O5, _, K5, _⟩
  have hsh : shownL [⟨0, 0, 3, false⟩, ⟨0, 3, 5, false⟩] 1 2 = [⟨0, 3, 5, false⟩, ⟨-1, 0, 0, false⟩] := by kernel_rfl
  rw [hsh] at O5
  have RS5 : RR h5 sv _ := OS.rs O5
  have R5 : RR h5 rv _ := RS.keeps R4 K5
  have K15 := K14.trans K5
  have L2 : abuiltin prog .len #[28] #[rv] = some (.int .i64 2) := R5.len underlying28
  have L5 : abuiltin prog .len #[28] #[sv] = some (.int .i64 2) := RS5.len underlying28
  have A0 := (RR.flds R5 (i := 0) rfl).2.2.2.2
  have A1 := (RR.flds R5 (i := 1) rfl).2.2.2.2
  have B0 := (RR.flds RS5 (i := 0) rfl).2.2.2.2
  have B1 := (RR.flds RS5 (i := 1) rfl).2.2.2.2
  have X0 := Rd.index R5 underlying28 asz37 (q := .i64) (i := 0) (by omega) (by simp)
  have X1 := Rd.index R5 underlying28 asz37 (q := .i64) (i := 1) (by omega) (by simp)
  have Y0 := Rd.index RS5 underlying28 asz37 (q := .i64) (i := 0) (by omega) (by simp)
  have Y1 := Rd.index RS5 underlying28 asz37 (q := .i64) (i := 1) (by omega) (by simp)
  simp only [show ((0 : Int)).toNat = 0 from rfl, show ((1 : Int)).toNat = 1 from rfl] at X0 X1 Y0 Y1
  have d22 : decide ((2 : Int) = 2) = true := rfl
  have d11 : decide ((1 : Int) = 1) = true := rfl
  have RD := Keeps.reads (Ch.wf K5) (Keeps.refl (Ch.wf K5))
  simp (disch := omega) only [wk, wt, wl, ↓reduceIte, Nat.reduceEqDiff, Nat.reduceAdd, Nat.zero_add, not_false_eq_true, not_true_eq_false]
  refine adraw_order [(0, false), (1, false), (2, false), (3, false), (4, false), (5, false), (6, false), (7, false), (8, false), (9, false), (10, false), (11, false), (12, false), (13, false), (14, false), (15, false), (16, false), (17, false), (18, false), (19, false), (20, false), (21, false), (22, false), (23, false), (24, false), (25, false), (26, true), (27, false), (28, false), (29, false), (30, true), (31, false), (32, false), (33, false), (34, true), (35, false), (36, false), (37, false), (38, true), (39, false), (40, false), (41, false), (42, false), (43, false), (44, false), (45, false), (46, false), (47, false), (48, false), (49, false), (50, false), (51, false), (52, false), (53, false), (54, false), (55, false), (56, false), (57, false), (58, false), (59, false), (60, false), (61, false), (62, false)] mixed (by kernel_rfl) (by kernel_rfl) (by kernel_rfl) (by repeat (first | exact PF_retK | refine PF_thenK ?_ | refine PF_blockK ?_)) ?_
  simp (disch := omega) only [wk, wt, wl, ↓reduceIte, Nat.reduceEqDiff, Nat.reduceAdd, Nat.zero_add, not_false_eq_true, not_true_eq_false, dK_t, L2, L5, X0, X1, Y0, Y1, A0, A1, B0, B1, build_r2, build_r12, build_r1, eql_row, d22, d11]
  have t1 : topZ 100 50 0 10 2 = 43 := by decide
  have t2 : topZ 100 50 45 10 2 = 45 := by decide
  have t3 : topZ 100 50 60 10 2 = 48 := by decide
  have t4 : leftZ 10 1 0 8 = 3 := by decide
  have q1 : decide ((43 : Int) = 43) = true := rfl
  have q2 : decide ((45 : Int) = 45) = true := rfl
  have q3 : decide ((48 : Int) = 48) = true := rfl
  have q4 : decide ((3 : Int) = 3) = true := rfl
  refine (top_ok (total := 100) (at_ := 50) (top := 0) (height := 10) (off := 2) (by omega) (by omega) (by omega)).use_pure ?_
  simp (disch := omega) only [wk, wt, wl, ↓reduceIte, Nat.reduceEqDiff, Nat.reduceAdd, Nat.zero_add, not_false_eq_true, not_true_eq_false, dK_t, t1, q1]
  refine ⟨RD, ?_⟩
  refine (top_ok (total := 100) (at_ := 50) (top := 45) (height := 10) (off := 2) (by omega) (by omega) (by omega)).use_pure ?_
  simp (disch := omega) only [wk, wt, wl, ↓reduceIte, Nat.reduceEqDiff, Nat.reduceAdd, Nat.zero_add, not_false_eq_true, not_true_eq_false, dK_t, t2, q2]
  refine ⟨RD, ?_⟩
  refine (top_ok (total := 100) (at_ := 50) (top := 60) (height := 10) (off := 2) (by omega) (by omega) (by omega)).use_pure ?_
  simp (disch := omega) only [wk, wt, wl, ↓reduceIte, Nat.reduceEqDiff, Nat.reduceAdd, Nat.zero_add, not_false_eq_true, not_true_eq_false, dK_t, t3, q3]
  refine ⟨RD, ?_⟩
  refine (left_ok (at_ := 10) (width := 1) (left := 0) (cols := 8) (by omega) (by omega) (by omega) (by omega)).use_pure ?_
  simp (disch := omega) only [wk, wt, wl, ↓reduceIte, Nat.reduceEqDiff, Nat.reduceAdd, Nat.zero_add, not_false_eq_true, not_true_eq_false, dK_t, t4, q4, L2, L5, X0, X1, Y0, Y1, A0, A1, B0, B1, build_r2, build_r12, build_r1, eql_row, d22, d11]
  exact ⟨RD, K15⟩
end Go.Proofs.YtmjdebeikcogkaaDoor.Am
end
section
/- Views: ViewKeeps and ViewLefts, told of abstract memory: they answer true. -/
set_option linter.unusedSimpArgs false
set_option linter.unusedVariables false
set_option maxHeartbeats 4000000
set_option maxRecDepth 20000
namespace Go.Proofs.YtmjdebeikcogkaaDoor.Am
open Go Go.RowKit Go.Proofs.Tryd
theorem topZ_in {total at_ top height off : Int} (h1 : 1 ≤ total) (h2 : 0 ≤ at_ ∧ at_ < total) (h3 : 1 ≤ height) (h4 : 0 ≤ top) (h5 : 0 ≤ off) :
    topZ total at_ top height off = if imax 0 (at_ - imin off ((height - 1).tdiv 2)) < top then imax 0 (at_ - imin off ((height - 1).tdiv 2)) else if top + height - 1 < imin (total - 1) (at_ + imin off ((height - 1).tdiv 2)) then imin (total - 1) (at_ + imin off ((height - 1).tdiv 2)) + 1 - height else top := by
  have e1 : imax total 1 = total := by unfold imax; split <;> omega
  have e2 : imax height 1 = height := by unfold imax; split <;> omega
  have e3 : imax at_ 0 = at_ := by unfold imax; split <;> omega
  have e4 : imin at_ (total - 1) = at_ := by unfold imin; split <;> omega
  have e5 : imax off 0 = off := by unfold imax; split <;> omega
  have e6 : imax top 0 = top := by unfold imax; split <;> omega
  have e7 := imax_comm (at_ - imin off ((height - 1).tdiv 2)) 0
  have e8 : imin (at_ + imin off ((height - 1).tdiv 2)) (total - 1) = imin (total - 1) (at_ + imin off ((height - 1).tdiv 2)) := by unfold imin; split <;> split <;> omega
  unfold topZ
  rw [e1, e2, e3, e4, e5, e6, e7, e8]
def paneV (a b c d e : Int) : Value := .agg #[.int .i64 a, .int .i64 b, .int .i64 c, .int .i64 d, .int .i64 e]
theorem boxV_pane {h : Heap} {a b c d e : Int} : boxV prog h 47 (paneV a b c d e) = some (.pointer (some ⟨h.size, 0, none⟩), h.new 47 [.int .i64 a, .int .i64 b, .int .i64 c, .int .i64 d, .int .i64 e]) := by
  simp [boxV, asz47, paneV, Value.cells, one]
theorem viewKeeps_law {total at_ top height off : Int} {h : Heap} (G : Gl h) : ACalls prog 6 #[paneV total at_ top height off] h (fun y h' => y = .bool true ∧ Keeps h h') := by
  refine acalls_of_W' func6 rfl (by kernel_rfl) (by kernel_rfl) (by simp [ntmps6]) ?_
  intro H
  have N1 := Keeps.new H 47 [.int .i64 total, .int .i64 at_, .int .i64 top, .int .i64 height, .int .i64 off]
  have V1 := Var.new (e := 47) H (cs := [.int .i64 total, .int .i64 at_, .int .i64 top, .int .i64 height, .int .i64 off])
  have G1 := G.keeps N1
  have A0 := V1.load1 (P := prog) (t := 3) underlying3 rfl (i := 0)
  have A1 := V1.load1 (P := prog) (t := 3) underlying3 rfl (i := 1)
  have A2 := V1.load1 (P := prog) (t := 3) underlying3 rfl (i := 2)
  have A3 := V1.load1 (P := prog) (t := 3) underlying3 rfl (i := 3)
  have A4 := V1.load1 (P := prog) (t := 3) underlying3 rfl (i := 4)
  simp only [List.getElem?_cons_succ, List.getElem?_cons_zero] at A0 A1 A2 A3 A4
  simp only [wk, wt, wl, ↓reduceIte, Nat.reduceEqDiff, Nat.reduceAdd, Nat.zero_add, not_false_eq_true, not_true_eq_false, aeff_box, boxV_pane]
  generalize h.new 47 [.int .i64 total, .int .i64 at_, .int .i64 top, .int .i64 height, .int .i64 off] = h1 at *
  by_cases hg : (1 ≤ total ∧ total ≤ 1099511627776 ∧ 0 ≤ at_ ∧ at_ < total) ∧ (1 ≤ height ∧ height ≤ 1099511627776 ∧ 0 ≤ top ∧ top ≤ 1099511627776 ∧ 0 ≤ off)
  · obtain ⟨⟨g1, g2, g3, g4⟩, g5, g6, g7, g8, g9⟩ := hg
    have d1 : decide (total < 1) = false := decide_eq_false (by omega)
    have d2 : decide (1099511627776 < total) = false := decide_eq_false (by omega)
    have d3 : decide (at_ < 0) = false := decide_eq_false (by omega)
    have d4 : decide (total ≤ at_) = false := decide_eq_false (by omega)
    have d5 : decide (height < 1) = false := decide_eq_false (by omega)
    have d6 : decide (1099511627776 < height) = false := decide_eq_false (by omega)
    have d7 : decide (top < 0) = false := decide_eq_false (by omega)
    have d8 : decide (1099511627776 < top) = false := decide_eq_false (by omega)
    have d9 : decide (off < 0) = false := decide_eq_false (by omega)
    have h20 : (2 : Int) ≠ 0 := by decide
    have hq : (height - 1).tdiv 2 = (height - 1) / 2 := Int.tdiv_eq_ediv_of_nonneg (by omega)
    have O := imin_spec off ((height - 1).tdiv 2)
    have wt1 : IntKind.i64.wrap (height - 1) = height - 1 := IntWalk.i64_in _ (by omega)
    have wt2 : IntKind.i64.wrap ((height - 1).tdiv 2) = (height - 1).tdiv 2 := IntWalk.i64_in _ (by omega)
    have Fs := imax_spec 0 (at_ - imin off ((height - 1).tdiv 2))
    have Ls := imin_spec (total - 1) (at_ + imin off ((height - 1).tdiv 2))
    have wt3 : IntKind.i64.wrap (at_ - imin off ((height - 1).tdiv 2)) = at_ - imin off ((height - 1).tdiv 2) := IntWalk.i64_in _ (by omega)
    have wt4 : IntKind.i64.wrap (at_ + imin off ((height - 1).tdiv 2)) = at_ + imin off ((height - 1).tdiv 2) := IntWalk.i64_in _ (by omega)
    have wt5 : IntKind.i64.wrap (total - 1) = total - 1 := IntWalk.i64_in _ (by omega)
    simp (disch := omega) only [wk, wt, wl, ↓reduceIte, Nat.reduceEqDiff, Nat.reduceAdd, Nat.zero_add, not_false_eq_true, not_true_eq_false, A0, A1, A2, A3, A4, d1, d2, d3, d4, d5, d6, d7, d8, d9, mnV, wt1, wt2, abin_quo h20]
    refine (top_ok (by omega) (by omega) (by omega)).use_pure ?_
    simp only [wk, wt, wl, ↓reduceIte, Nat.reduceEqDiff, Nat.reduceAdd, Nat.zero_add, not_false_eq_true, not_true_eq_false]
    refine adraw_order [(0, false), (1, false), (2, false), (3, false), (4, false), (5, false), (6, false), (7, false), (8, false), (9, false), (10, false), (11, false), (12, false), (13, false), (14, false)] mixed (by kernel_rfl) (by kernel_rfl) (by kernel_rfl) (by repeat (first | exact PF_retK | refine PF_thenK ?_ | refine PF_blockK ?_)) ?_
    obtain ⟨t, ht⟩ : ∃ t, topZ total at_ top height off = t := ⟨_, rfl⟩
    have hT := topZ_in (total := total) (at_ := at_) (top := top) (height := height) (off := off) g1 ⟨g3, g4⟩ g5 g7 g9
    have hT2 := fun ht0 => topZ_in (total := total) (at_ := at_) (top := t) (height := height) (off := off) g1 ⟨g3, g4⟩ g5 ht0 g9
    rw [ht] at hT
    obtain ⟨F, hF⟩ : ∃ F, imax 0 (at_ - imin off ((height - 1).tdiv 2)) = F := ⟨_, rfl⟩
    obtain ⟨L, hL⟩ : ∃ L, imin (total - 1) (at_ + imin off ((height - 1).tdiv 2)) = L := ⟨_, rfl⟩
    rw [hF] at Fs hT
    rw [hL] at Ls hT
    simp only [hF, hL] at hT2
    generalize imin off ((height - 1).tdiv 2) = o at *
    have S : (F < top ∧ t = F) ∨ (top ≤ F ∧ top + height - 1 < L ∧ t = L + 1 - height) ∨ (top ≤ F ∧ L ≤ top + height - 1 ∧ t = top) := by
      split at hT
      · exact .inl ⟨by assumption, hT⟩
      · split at hT
        · exact .inr (.inl ⟨by omega, by assumption, hT⟩)
        · exact .inr (.inr ⟨by omega, by omega, hT⟩)
    have R1 : 0 ≤ t ∧ t ≤ F ∧ L ≤ t + height - 1 ∧ t ≤ 2199023255552 := by omega
    have hT3 := hT2 R1.1
    rw [if_neg (by omega), if_neg (by omega)] at hT3
    have e1 : decide (0 ≤ t) = true := decide_eq_true R1.1
    have e2 : decide (t ≤ F) = true := decide_eq_true R1.2.1
    have w6 : IntKind.i64.wrap (t + height) = t + height := IntWalk.i64_in _ (by omega)
    have w7 : IntKind.i64.wrap (t + height - 1) = t + height - 1 := IntWalk.i64_in _ (by omega)
    have e3 : decide (L ≤ t + height - 1) = true := decide_eq_true R1.2.2.1
    have w8 : IntKind.i64.wrap (top + height) = top + height := IntWalk.i64_in _ (by omega)
    have w9 : IntKind.i64.wrap (top + height - 1) = top + height - 1 := IntWalk.i64_in _ (by omega)
    have w10 : IntKind.i64.wrap (t + 1) = t + 1 := IntWalk.i64_in _ (by omega)
    have w11 : IntKind.i64.wrap (t - 1) = t - 1 := IntWalk.i64_in _ (by omega)
    have w12 : IntKind.i64.wrap (t - 1 + height) = t - 1 + height := IntWalk.i64_in _ (by omega)
    have w13 : IntKind.i64.wrap (t - 1 + height - 1) = t - 1 + height - 1 := IntWalk.i64_in _ (by omega)
    simp (disch := omega) only [wk, wt, wl, ↓reduceIte, Nat.reduceEqDiff, Nat.reduceAdd, Nat.zero_add, not_false_eq_true, not_true_eq_false, dK_t, A0, A1, A2, A3, A4, mnV, mxV, wt3, wt4, wt5, hF, hL, ht, e1, e2, e3, w6, w7]
    rcases S with ⟨s1, s2⟩ | ⟨s1, s2, s3⟩ | ⟨s1, s2, s3⟩
    · have f1 : decide (top ≤ F) = false := decide_eq_false (by omega)
      have f2 : decide (t < top) = true := decide_eq_true (by omega)
      have f3 : decide (t + 1 ≤ F) = false := decide_eq_false (by omega)
      have f4 : decide (top < t) = false := decide_eq_false (by omega)
      simp (disch := omega) only [wk, wt, wl, ↓reduceIte, Nat.reduceEqDiff, Nat.reduceAdd, Nat.zero_add, not_false_eq_true, not_true_eq_false, A0, A1, A2, A3, A4, w8, w9, w10, w11, w12, w13, f1, f2, f3, f4, Bool.not_false]
      refine (top_ok (by omega) (by omega) (by omega)).use_pure ?_
      have e9 : decide (t = t) = true := decide_eq_true rfl
      simp (disch := omega) only [wk, wt, wl, ↓reduceIte, Nat.reduceEqDiff, Nat.reduceAdd, Nat.zero_add, not_false_eq_true, not_true_eq_false, hT3, e9]
      refine (awake_ok G1).use ?_
      rintro _ h2 ⟨rfl, K2⟩
      simp only [wk, wt, wl, ↓reduceIte, Nat.reduceEqDiff, Nat.reduceAdd, Nat.zero_add, not_false_eq_true, not_true_eq_false]
      exact N1.trans K2
    · have f1 : decide (top ≤ F) = true := decide_eq_true (by omega)
      have f2 : decide (L ≤ top + height - 1) = false := decide_eq_false (by omega)
      have f3 : decide (t < top) = false := decide_eq_false (by omega)
      have f4 : decide (top < t) = true := decide_eq_true (by omega)
      have f5 : decide (L ≤ t - 1 + height - 1) = false := decide_eq_false (by omega)
      simp (disch := omega) only [wk, wt, wl, ↓reduceIte, Nat.reduceEqDiff, Nat.reduceAdd, Nat.zero_add, not_false_eq_true, not_true_eq_false, A0, A1, A2, A3, A4, w8, w9, w10, w11, w12, w13, f1, f2, f3, f4, f5, Bool.not_false]
      refine (top_ok (by omega) (by omega) (by omega)).use_pure ?_
      have e9 : decide (t = t) = true := decide_eq_true rfl
      simp (disch := omega) only [wk, wt, wl, ↓reduceIte, Nat.reduceEqDiff, Nat.reduceAdd, Nat.zero_add, not_false_eq_true, not_true_eq_false, hT3, e9]
      refine (awake_ok G1).use ?_
      rintro _ h2 ⟨rfl, K2⟩
      simp only [wk, wt, wl, ↓reduceIte, Nat.reduceEqDiff, Nat.reduceAdd, Nat.zero_add, not_false_eq_true, not_true_eq_false]
      exact N1.trans K2
    · have f1 : decide (top ≤ F) = true := decide_eq_true (by omega)
      have f2 : decide (L ≤ top + height - 1) = true := decide_eq_true (by omega)
      have f3 : decide (t < top) = false := decide_eq_false (by omega)
      have f4 : decide (top < t) = false := decide_eq_false (by omega)
      have f5 : decide (t = top) = true := decide_eq_true (by omega)
      simp (disch := omega) only [wk, wt, wl, ↓reduceIte, Nat.reduceEqDiff, Nat.reduceAdd, Nat.zero_add, not_false_eq_true, not_true_eq_false, A0, A1, A2, A3, A4, w8, w9, w10, w11, w12, w13, f1, f2, f3, f4, f5, Bool.not_true]
      refine (top_ok (by omega) (by omega) (by omega)).use_pure ?_
      have e9 : decide (t = t) = true := decide_eq_true rfl
      simp (disch := omega) only [wk, wt, wl, ↓reduceIte, Nat.reduceEqDiff, Nat.reduceAdd, Nat.zero_add, not_false_eq_true, not_true_eq_false, hT3, e9]
      refine (awake_ok G1).use ?_
      rintro _ h2 ⟨rfl, K2⟩
      simp only [wk, wt, wl, ↓reduceIte, Nat.reduceEqDiff, Nat.reduceAdd, Nat.zero_add, not_false_eq_true, not_true_eq_false]
      exact N1.trans K2
  · simp only [wk, wt, wl, ↓reduceIte, Nat.reduceEqDiff, Nat.reduceAdd, Nat.zero_add, not_false_eq_true, not_true_eq_false, A0, A1, A2, A3, A4]
    repeat' (first
      | (with_reducible refine condK_dec (fun hc => ?_) (fun hc => ?_) <;> simp only [wk, wt, wl, ↓reduceIte, Nat.reduceEqDiff, Nat.reduceAdd, Nat.zero_add, not_false_eq_true, not_true_eq_false, A0, A1, A2, A3, A4, hc])
      | (with_reducible refine condK_split (fun hc => ?_) (fun hc => ?_) <;> simp only [wk, wt, wl, ↓reduceIte, Nat.reduceEqDiff, Nat.reduceAdd, Nat.zero_add, not_false_eq_true, not_true_eq_false, A0, A1, A2, A3, A4, hc])
      | (with_reducible refine gateO_dec (fun hc => ?_) (fun hc => ?_) <;> simp only [wk, wt, wl, ↓reduceIte, Nat.reduceEqDiff, Nat.reduceAdd, Nat.zero_add, not_false_eq_true, not_true_eq_false, A0, A1, A2, A3, A4, hc])
      | (with_reducible refine gateO_decF (fun hc => ?_) (fun hc => ?_) <;> simp only [wk, wt, wl, ↓reduceIte, Nat.reduceEqDiff, Nat.reduceAdd, Nat.zero_add, not_false_eq_true, not_true_eq_false, A0, A1, A2, A3, A4, hc])
      | (with_reducible refine gateO_boolT (fun hc => ?_) (fun hc => ?_) <;> simp only [wk, wt, wl, ↓reduceIte, Nat.reduceEqDiff, Nat.reduceAdd, Nat.zero_add, not_false_eq_true, not_true_eq_false, A0, A1, A2, A3, A4, hc])
      | (with_reducible refine gateO_boolF (fun hc => ?_) (fun hc => ?_) <;> simp only [wk, wt, wl, ↓reduceIte, Nat.reduceEqDiff, Nat.reduceAdd, Nat.zero_add, not_false_eq_true, not_true_eq_false, A0, A1, A2, A3, A4, hc]))
    all_goals first
      | (exfalso; omega)
      | (refine (awake_ok G1).use ?_
         rintro _ h2 ⟨rfl, K2⟩
         simp only [wk, wt, wl, ↓reduceIte, Nat.reduceEqDiff, Nat.reduceAdd, Nat.zero_add, not_false_eq_true, not_true_eq_false]
         exact N1.trans K2)
def fourV (a b c d : Int) : Value := .agg #[.int .i64 a, .int .i64 b, .int .i64 c, .int .i64 d]
theorem boxV_four {h : Heap} {a b c d : Int} : boxV prog h 50 (fourV a b c d) = some (.pointer (some ⟨h.size, 0, none⟩), h.new 50 [.int .i64 a, .int .i64 b, .int .i64 c, .int .i64 d]) := by
  simp [boxV, asz50, fourV, Value.cells, one]
theorem viewLefts_law {a b c d : Int} {h : Heap} (G : Gl h) (ha : a ≤ 9223372036854775807) (hb : b ≤ 9223372036854775807) (hc : c ≤ 9223372036854775807) (hd : d ≤ 9223372036854775807) : ACalls prog 7 #[fourV a b c d] h (fun y h' => y = .bool true ∧ Keeps h h') := by
  refine acalls_of_W' func7 rfl (by kernel_rfl) (by kernel_rfl) (by simp [ntmps7]) ?_
  intro H
  have N1 := Keeps.new H 50 [.int .i64 a, .int .i64 b, .int .i64 c, .int .i64 d]
  have V1 := Var.new (e := 50) H (cs := [.int .i64 a, .int .i64 b, .int .i64 c, .int .i64 d])
  have G1 := G.keeps N1
  have A0 := V1.load1 (P := prog) (t := 3) underlying3 rfl (i := 0)
  have A1 := V1.load1 (P := prog) (t := 3) underlying3 rfl (i := 1)
  have A2 := V1.load1 (P := prog) (t := 3) underlying3 rfl (i := 2)
  have A3 := V1.load1 (P := prog) (t := 3) underlying3 rfl (i := 3)
  simp only [List.getElem?_cons_succ, List.getElem?_cons_zero] at A0 A1 A2 A3
  have AX := fun (i : Int) (h0 : 0 ≤ i) (h1 : i < 4) => arr_index (P := prog) (a := ⟨h.size, 0, none⟩) (q := .i64) (i := i) underlying50 asz3 h0 h1
  have I0 : aindexAddr prog 50 (.pointer (some ⟨h.size, 0, none⟩)) (.int .i64 0) = some (.pointer (some ⟨h.size, 0, none⟩)) := AX 0 (by decide) (by decide)
  have I1 : aindexAddr prog 50 (.pointer (some ⟨h.size, 0, none⟩)) (.int .i64 1) = some (.pointer (some ⟨h.size, 1, none⟩)) := AX 1 (by decide) (by decide)
  have I2 : aindexAddr prog 50 (.pointer (some ⟨h.size, 0, none⟩)) (.int .i64 2) = some (.pointer (some ⟨h.size, 2, none⟩)) := AX 2 (by decide) (by decide)
  have I3 : aindexAddr prog 50 (.pointer (some ⟨h.size, 0, none⟩)) (.int .i64 3) = some (.pointer (some ⟨h.size, 3, none⟩)) := AX 3 (by decide) (by decide)
  have e0 : decide (¬ leftZ a b c d = leftZ a b c d) = false := decide_eq_false (by simp)
  simp only [wk, wt, wl, ↓reduceIte, Nat.reduceEqDiff, Nat.reduceAdd, Nat.zero_add, not_false_eq_true, not_true_eq_false, aeff_box, boxV_four, I0, I1, I2, I3, A0, A1, A2, A3]
  generalize h.new 50 [.int .i64 a, .int .i64 b, .int .i64 c, .int .i64 d] = h1 at *
  refine (left_ok ha hb hc hd).use_pure ?_
  simp only [wk, wt, wl, ↓reduceIte, Nat.reduceEqDiff, Nat.reduceAdd, Nat.zero_add, not_false_eq_true, not_true_eq_false, I0, I1, I2, I3, A0, A1, A2, A3]
  refine (refLeft_ok ha hb hc hd).use_pure ?_
  simp only [wk, wt, wl, ↓reduceIte, Nat.reduceEqDiff, Nat.reduceAdd, Nat.zero_add, not_false_eq_true, not_true_eq_false, I0, I1, I2, I3, A0, A1, A2, A3, e0]
  by_cases hg : (0 ≤ a ∧ a ≤ 1099511627776) ∧ 1 ≤ b ∧ b ≤ d ∧ d ≤ 1099511627776
  · obtain ⟨⟨g1, g2⟩, g3, g4, g5⟩ := hg
    have d1 : decide (a < 0) = false := decide_eq_false (by omega)
    have d2 : decide (1099511627776 < a) = false := decide_eq_false (by omega)
    have d3 : decide (b < 1) = false := decide_eq_false (by omega)
    have d4 : decide (d < b) = false := decide_eq_false (by omega)
    have d5 : decide (1099511627776 < d) = false := decide_eq_false (by omega)
    have S : 0 ≤ leftZ a b c d ∧ leftZ a b c d ≤ a ∧ a + b ≤ leftZ a b c d + d := by
      unfold leftZ
      have A := imax_spec a 0
      have B := imax_spec c 0
      have C := imax_spec b 1
      have D := imax_spec d 1
      have M := imax_spec (imax c 0) (imax a 0 - (imax d 1 - imax b 1))
      split <;> omega
    generalize leftZ a b c d = t at *
    have w1 : IntKind.i64.wrap (a + b) = a + b := IntWalk.i64_in _ (by omega)
    have w2 : IntKind.i64.wrap (t + d) = t + d := IntWalk.i64_in _ (by omega)
    have e1 : decide (0 ≤ t) = true := decide_eq_true S.1
    have e2 : decide (t ≤ a) = true := decide_eq_true S.2.1
    have e3 : decide (a + b ≤ t + d) = true := decide_eq_true S.2.2
    simp only [wk, wt, wl, ↓reduceIte, Nat.reduceEqDiff, Nat.reduceAdd, Nat.zero_add, not_false_eq_true, not_true_eq_false, I0, I1, I2, I3, A0, A1, A2, A3, d1, d2, d3, d4, d5, w1, w2, e1, e2, e3]
    refine (awake_ok G1).use ?_
    rintro _ h2 ⟨rfl, K2⟩
    simp only [wk, wt, wl, ↓reduceIte, Nat.reduceEqDiff, Nat.reduceAdd, Nat.zero_add, not_false_eq_true, not_true_eq_false]
    exact N1.trans K2
  · repeat' (first
      | (with_reducible refine condK_dec (fun hc => ?_) (fun hc => ?_) <;> simp only [wk, wt, wl, ↓reduceIte, Nat.reduceEqDiff, Nat.reduceAdd, Nat.zero_add, not_false_eq_true, not_true_eq_false, I0, I1, I2, I3, A0, A1, A2, A3, hc])
      | (with_reducible refine condK_split (fun hc => ?_) (fun hc => ?_) <;> simp only [wk, wt, wl, ↓reduceIte, Nat.reduceEqDiff, Nat.reduceAdd, Nat.zero_add, not_false_eq_true, not_true_eq_false, I0, I1, I2, I3, A0, A1, A2, A3, hc])
      | (with_reducible refine gateO_dec (fun hc => ?_) (fun hc => ?_) <;> simp only [wk, wt, wl, ↓reduceIte, Nat.reduceEqDiff, Nat.reduceAdd, Nat.zero_add, not_false_eq_true, not_true_eq_false, I0, I1, I2, I3, A0, A1, A2, A3, hc])
      | (with_reducible refine gateO_decF (fun hc => ?_) (fun hc => ?_) <;> simp only [wk, wt, wl, ↓reduceIte, Nat.reduceEqDiff, Nat.reduceAdd, Nat.zero_add, not_false_eq_true, not_true_eq_false, I0, I1, I2, I3, A0, A1, A2, A3, hc])
      | (with_reducible refine gateO_boolT (fun hc => ?_) (fun hc => ?_) <;> simp only [wk, wt, wl, ↓reduceIte, Nat.reduceEqDiff, Nat.reduceAdd, Nat.zero_add, not_false_eq_true, not_true_eq_false, I0, I1, I2, I3, A0, A1, A2, A3, hc])
      | (with_reducible refine gateO_boolF (fun hc => ?_) (fun hc => ?_) <;> simp only [wk, wt, wl, ↓reduceIte, Nat.reduceEqDiff, Nat.reduceAdd, Nat.zero_add, not_false_eq_true, not_true_eq_false, I0, I1, I2, I3, A0, A1, A2, A3, hc]))
    all_goals first
      | (exfalso; omega)
      | (refine (awake_ok G1).use ?_
         rintro _ h2 ⟨rfl, K2⟩
         simp only [wk, wt, wl, ↓reduceIte, Nat.reduceEqDiff, Nat.reduceAdd, Nat.zero_add, not_false_eq_true, not_true_eq_false]
         exact N1.trans K2)
end Go.Proofs.YtmjdebeikcogkaaDoor.Am
end
section
/- Views: ViewShows, ViewRows and ViewFinds, told of abstract memory: they answer true. -/
set_option linter.unusedSimpArgs false
set_option linter.unusedVariables false
set_option maxHeartbeats 4000000
set_option maxRecDepth 20000
namespace Go.Proofs.YtmjdebeikcogkaaDoor.Am
open Go Go.RowKit Go.Proofs.Tryd
theorem fm_setAt {α : Type} {c : α → List Value} {s : Nat} (hc : ∀ x, (c x).length = s) {y : α} {j : Nat} {w : Value} (hj : j < s) : ∀ {l : List α} {i : Nat} {x : α}, l[i]? = some x → c y = (c x).set j w → (l.flatMap c).set (i * s + j) w = (l.set i y).flatMap c
  | [], i, x, h, _ => by simp at h
  | z :: l, 0, x, h, e => by
    simp at h; subst h
    simp only [List.flatMap_cons, List.set_cons_zero, Nat.zero_mul, Nat.zero_add]
    rw [List.set_append_left _ _ (by rw [hc]; omega), e]
  | z :: l, i + 1, x, h, e => by
    simp at h
    have ih := fm_setAt hc hj h e
    simp only [List.flatMap_cons, List.set_cons_succ]
    rw [List.set_append_right _ _ (by rw [hc, Nat.add_mul]; omega), hc, show (i + 1) * s + j - s = i * s + j by rw [Nat.add_mul]; omega, ih]
theorem viewShows_law {v : Value} {rows : List Rw} {top height : Int} {h : Heap} (R : RR h v rows) (G : Gl h) (hl : rows.length ≤ 1048576) : ACalls prog 8 #[v, .int .i64 top, .int .i64 height] h (fun y h' => y = .bool true ∧ Keeps h h') := by
  refine acalls_of_W' func8 rfl (by kernel_rfl) (by kernel_rfl) (by simp [ntmps8]) ?_
  intro H
  by_cases h0 : 3000 < height
  · have d0 := decide_eq_true h0
    simp only [wk, wt, wl, ↓reduceIte, Nat.reduceEqDiff, Nat.reduceAdd, Nat.zero_add, not_false_eq_true, not_true_eq_false, d0]
    exact Keeps.refl H
  · have d0 := decide_eq_false h0
    simp only [wk, wt, wl, ↓reduceIte, Nat.reduceEqDiff, Nat.reduceAdd, Nat.zero_add, not_false_eq_true, not_true_eq_false, d0, build0 underlying28 asz37]
    have O0 : OS prog h.size (h.new 37 []) 4 cR (.slice (some ⟨h.size, 0, none⟩) 0 1) ([] : List Rw) := Own.new H (Nat.le_refl _) asz37 (by simp)
    have K1 := Keeps.new H 37 []
    obtain ⟨mv, h2, e2, O2, RD2, C2, _⟩ := O0.appendRS (Ch.wf K1) (Ch.le K1) underlying28 elem37 fits37 (by decide) (RS.keeps R K1) (by simp; omega)
    rw [e2]; clear e2
    have K2 := K1.step C2 fun b hb => hb.2
    simp only [List.nil_append] at O2
    have R2 : RR h2 mv rows := O2.rs
    simp only [wk, wt, wl, ↓reduceIte, Nat.reduceEqDiff, Nat.reduceAdd, Nat.zero_add, not_false_eq_true, not_true_eq_false]
    refine (viewShown_ok (top := top) (height := height) R2 hl (by omega)).use ?_
    rintro av h3 ⟨O3, hf3, K3, hc0⟩
    have K03 := K2.trans K3
    simp only [wk, wt, wl, ↓reduceIte, Nat.reduceEqDiff, Nat.reduceAdd, Nat.zero_add, not_false_eq_true, not_true_eq_false]
    refine (refShown_ok (top := top) (height := height) (RS.keeps R K03) hl (by omega)).use ?_
    rintro bv h4 ⟨R4, K4⟩
    have hsl := shownL_len (rows := rows) (top := top) (height := height)
    have O4 := O3.keeps K4
    have R3 : RR h4 av _ := O4.rs
    simp only [wk, wt, wl, ↓reduceIte, Nat.reduceEqDiff, Nat.reduceAdd, Nat.zero_add, not_false_eq_true, not_true_eq_false]
    refine (sameR_ok R3 R4 (by omega)).use_pure ?_
    simp only [wk, wt, wl, ↓reduceIte, Nat.reduceEqDiff, Nat.reduceAdd, Nat.zero_add, not_false_eq_true, not_true_eq_false, Bool.not_true]
    have K04 := K03.trans K4
    have K24 := K3.trans K4
    have hle4 := Ch.le K24
    refine W_loop (fun tm h' => Keeps h2 h' ∧ tm 0 = v ∧ tm 7 = mv ∧ tm 8 = av ∧ ∃ (i : Nat) (l : List Rw), tm 9 = .int .i64 i ∧ i ≤ l.length ∧ l.length = height.toNat ∧ OS prog h2.size h' 4 cR av l) (fun tm _ => (height.toNat - intOf (tm 9)).toNat)
      ⟨K24, (by first | rfl | (simp only [wk, wt, wl, ↓reduceIte, Nat.reduceEqDiff, Nat.reduceAdd, Nat.zero_add, not_false_eq_true, not_true_eq_false]; done) | (simp only [wk, wt, wl, ↓reduceIte, Nat.reduceEqDiff, Nat.reduceAdd, Nat.zero_add, not_false_eq_true, not_true_eq_false]; rfl)), (by first | rfl | (simp only [wk, wt, wl, ↓reduceIte, Nat.reduceEqDiff, Nat.reduceAdd, Nat.zero_add, not_false_eq_true, not_true_eq_false]; done) | (simp only [wk, wt, wl, ↓reduceIte, Nat.reduceEqDiff, Nat.reduceAdd, Nat.zero_add, not_false_eq_true, not_true_eq_false]; rfl)), (by first | rfl | (simp only [wk, wt, wl, ↓reduceIte, Nat.reduceEqDiff, Nat.reduceAdd, Nat.zero_add, not_false_eq_true, not_true_eq_false]; done) | (simp only [wk, wt, wl, ↓reduceIte, Nat.reduceEqDiff, Nat.reduceAdd, Nat.zero_add, not_false_eq_true, not_true_eq_false]; rfl)), 0, _, (by first | rfl | (simp only [wk, wt, wl, ↓reduceIte, Nat.reduceEqDiff, Nat.reduceAdd, Nat.zero_add, not_false_eq_true, not_true_eq_false]; done) | (simp only [wk, wt, wl, ↓reduceIte, Nat.reduceEqDiff, Nat.reduceAdd, Nat.zero_add, not_false_eq_true, not_true_eq_false]; rfl)), by omega, hsl, O4⟩ ?_
    clear O4 R3
    rintro tm h' ⟨K, t0, t7, t8, i, l, t9, hi, hll, O⟩
    have Rl : RR h' av l := O.rs
    simp (disch := omega) only [wk, wt, wl, ↓reduceIte, Nat.reduceEqDiff, Nat.reduceAdd, Nat.zero_add, not_false_eq_true, not_true_eq_false, t0, t7, t8, t9, Rl.len underlying28]
    refine condK_dec (fun hd => ?_) (fun hd => ?_)
    · have hi1 : i < l.length := by omega
      obtain ⟨x, hx⟩ : ∃ x, l[i]? = some x := ⟨l[i], List.getElem?_eq_getElem hi1⟩
      have IX := Rd.index Rl underlying28 asz37 (q := .i64) (i := (i : Int)) (by omega) (by omega)
      simp only [Int.toNat_natCast] at IX
      obtain ⟨a, rfl⟩ : ∃ a, av = .slice (some a) l.length 0 := by
        obtain ⟨⟨_, ⟨q, _⟩ | ⟨b, o, c, k, rfl, _⟩⟩, _⟩ := O
        · omega
        · rcases hc0 _ _ _ rfl with q | q
          · omega
          · subst q; exact ⟨_, rfl⟩
      obtain ⟨bo, oo, ko, rfl, hBa, hko, _, _, _, _, _, hlt, _⟩ := Own.third O
      obtain ⟨h5, e5, O5, C5, z5, _⟩ := Own.store (P := prog) (Ch.wf K) O (t := 3) (w := .int .i64 77) (i := i) (j := 0) asz3 rfl hi1 (by omega)
      have hfs := fm_setAt (c := cR) cR_len (y := ⟨77, x.fr, x.to, x.fo⟩) (j := 0) (w := .int .i64 77) (by omega) hx rfl
      rw [hfs] at O5
      have KK := K.step C5 (famB rfl K hlt hBa)
      simp (disch := omega) only [wk, wt, wl, ↓reduceIte, Nat.reduceEqDiff, Nat.reduceAdd, Nat.zero_add, not_false_eq_true, not_true_eq_false, t0, t7, t8, t9, IX, e5, IntWalk.i64_in, intOf_int]
      exact ⟨⟨KK, i + 1, l.set i ⟨77, x.fr, x.to, x.fo⟩, by simp, by simp; omega, by simp; omega, by unfold OS; rw [List.length_set]; exact O5⟩, by omega⟩
    · have K0 := K2.trans K
      simp (disch := omega) only [wk, wt, wl, ↓reduceIte, Nat.reduceEqDiff, Nat.reduceAdd, Nat.zero_add, not_false_eq_true, not_true_eq_false, t0, t7]
      refine (sameR_ok (RS.keeps R2 K) (RS.keeps R K0) (by omega)).use_pure ?_
      simp only [wk, wt, wl, ↓reduceIte, Nat.reduceEqDiff, Nat.reduceAdd, Nat.zero_add, not_false_eq_true, not_true_eq_false]
      refine (awake_ok (G.keeps K0)).use ?_
      rintro _ h6 ⟨rfl, K6⟩
      simp only [wk, wt, wl, ↓reduceIte, Nat.reduceEqDiff, Nat.reduceAdd, Nat.zero_add, not_false_eq_true, not_true_eq_false]
      exact K0.trans K6
end Go.Proofs.YtmjdebeikcogkaaDoor.Am
end
section
/- Views: ViewRows and ViewFinds, told of abstract memory: they answer true. -/
set_option linter.unusedSimpArgs false
set_option linter.unusedVariables false
set_option maxHeartbeats 4000000
set_option maxRecDepth 20000
namespace Go.Proofs.YtmjdebeikcogkaaDoor.Am
open Go Go.RowKit Go.Proofs.Tryd
def RunesOk (ls : List (List Int)) : Prop := ∀ (i : Nat) xs, ls[i]? = some xs → ∀ j, isR (xs.getD j 0)
theorem fit_text {ls : List (List Int)} {l : List F} (h : fitB ls l = true) (HR : RunesOk ls) : nearF l = true ∧ ls.length ≤ 300 ∧ TextOk ls ∧ sumL ls ≤ 3001 := by
  simp only [fitB, smallB, Bool.and_eq_true, decide_eq_true_eq] at h
  obtain ⟨h1, h2, h3⟩ := h
  have hs : sumL ls ≤ 3001 := by
    unfold runesZ at h3
    split at h3
    · by_cases h0 : ls.length = 0
      · have : ls = [] := List.eq_nil_of_length_eq_zero h0
        subst this; simp [sumL]
      · omega
    · omega
  refine ⟨h1, by omega, fun i xs hx => ⟨HR i xs hx, ?_⟩, hs⟩
  have := sumL_get hx
  omega
theorem boxV_look {h : Heap} {fv : Value} {cols tab : Int} {wrap : Bool} (hf : one fv = true) : boxV prog h 25 (lookV fv cols tab wrap) = some (.pointer (some ⟨h.size, 0, none⟩), h.new 25 (lookC fv cols tab wrap)) := by
  simp [boxV, asz25, lookV, lookC, Value.cells, hf, one_int, one_bool]
theorem viewRows_law {v fv : Value} {ls : List (List Int)} {l : List F} {cols tab : Int} {wrap : Bool} {h : Heap} (T : LT h v ls) (R : FR h fv l) (G : Gl h) (HR : RunesOk ls) (hb : sumL ls ≤ 1048576) (hls : ls.length ≤ 1048576) (hl : l.length ≤ 1048576) :
    ACalls prog 3 #[v, lookV fv cols tab wrap] h (fun y h' => y = .bool true ∧ Keeps h h') := by
  refine acalls_of_W' func3 rfl (by kernel_rfl) (by kernel_rfl) (by simp [ntmps3]) ?_
  intro H
  have N1 := Keeps.new H 25 (lookC fv cols tab wrap)
  have V1 := Var.new (e := 25) H (cs := lookC fv cols tab wrap)
  have LA := fun {hh : Heap} (V : Var hh h.size (lookC fv cols tab wrap)) => V.loadA (P := prog) (t := 25) underlying25 rfl asz25
  have L0 := fun {hh : Heap} (V : Var hh h.size (lookC fv cols tab wrap)) => And.intro (V.load1 (P := prog) (t := 23) underlying23 rfl (i := 0)) (And.intro (V.load1 (P := prog) (t := 3) underlying3 rfl (i := 1)) (And.intro (V.load1 (P := prog) (t := 3) underlying3 rfl (i := 2)) (V.load1 (P := prog) (t := 4) underlying4 rfl (i := 3))))
  simp only [lookC, List.getElem?_cons_succ, List.getElem?_cons_zero] at LA L0
  have bx := boxV_look (h := h) (cols := cols) (tab := tab) (wrap := wrap) R.one
  have RF1 : FR _ fv l := RS.keeps R N1
  have T1 := T.keeps N1
  have G1 := G.keeps N1
  have hlt := V1.lt (Ch.wf N1)
  simp only [lookC] at V1 N1 bx RF1 T1 G1 hlt
  simp only [wk, wt, wl, ↓reduceIte, Nat.reduceEqDiff, Nat.reduceAdd, Nat.zero_add, not_false_eq_true, not_true_eq_false, aeff_box, bx]
  generalize h.new 25 [fv, .int .i64 cols, .int .i64 tab, .bool wrap] = h1 at *
  refine adraw_order [(0, false), (1, false), (2, true), (3, false), (4, false), (5, false), (6, false), (7, false), (8, false), (9, false), (10, false), (11, false), (12, false), (13, false), (15, false), (16, false), (17, false), (18, false), (19, false), (20, false), (21, false), (22, false), (23, false), (14, true), (24, true), (25, true), (26, false), (27, true), (28, false), (29, false), (30, false)] mixed (by kernel_rfl) (by kernel_rfl) (by kernel_rfl) (by repeat (first | exact PF_retK | refine PF_thenK ?_ | refine PF_blockK ?_)) ?_
  simp (disch := omega) only [wk, wt, wl, ↓reduceIte, Nat.reduceEqDiff, Nat.reduceAdd, Nat.zero_add, not_false_eq_true, not_true_eq_false, LA V1]
  refine (fit_ok (cols := cols) (tab := tab) (wrap := wrap) T1 RF1 (fun _ => by omega) (by omega) (by omega)).use ?_
  rintro _ h2 ⟨rfl, K2⟩
  have K02 := N1.trans K2
  have V2 := Keeps.var (Ch.wf N1) K2 V1
  cases hfit : fitB ls l with
  | false =>
    simp (disch := omega) only [wk, wt, wl, ↓reduceIte, Nat.reduceEqDiff, Nat.reduceAdd, Nat.zero_add, not_false_eq_true, not_true_eq_false, dK_t, Bool.not_false]
    have RR0 := Keeps.reads (Ch.wf K02) (Keeps.refl (Ch.wf K02))
    exact ⟨K2.reads (Ch.wf N1), RR0, RR0, RR0, RR0, K02⟩
  | true =>
    obtain ⟨hn, h300, HT, _⟩ := fit_text hfit HR
    simp (disch := omega) only [wk, wt, wl, ↓reduceIte, Nat.reduceEqDiff, Nat.reduceAdd, Nat.zero_add, not_false_eq_true, not_true_eq_false, dK_t, Bool.not_true, L0 V2]
    refine ⟨K2.reads (Ch.wf N1), ?_⟩
    refine (viewRows_ok (cols := cols) (tab := tab) (wrap := wrap) (T1.keeps K2) (RS.keeps RF1 K2) (G1.keeps K2) HT h300 (by omega) hn).use ?_
    rintro rv h3 ⟨r, hrows, hr3, RV, K3, _⟩
    have K03 := K02.trans K3
    have V3 := Keeps.var (Ch.wf K02) K3 V2
    simp (disch := omega) only [wk, wt, wl, ↓reduceIte, Nat.reduceEqDiff, Nat.reduceAdd, Nat.zero_add, not_false_eq_true, not_true_eq_false, dK_t, L0 V3]
    refine ⟨K3.reads (Ch.wf K02), ?_⟩
    refine (refViewRows_ok (cols := cols) (tab := tab) (wrap := wrap) (T.keeps K03) (RS.keeps R K03) HT h300 (by omega) hn).use ?_
    rintro rv' h4 ⟨r', hrows', _, RV', K4⟩
    obtain rfl := hrows.det hrows'
    have K04 := K03.trans K4
    have hvl := viewL_len HT (cols := cols) (tab := tab) (wrap := wrap) (r := r)
    simp (disch := omega) only [wk, wt, wl, ↓reduceIte, Nat.reduceEqDiff, Nat.reduceAdd, Nat.zero_add, not_false_eq_true, not_true_eq_false, dK_t]
    refine ⟨K4.reads (Ch.wf K03), ?_⟩
    refine (sameR_ok (RS.keeps RV K4) RV' (by omega)).use_pure ?_
    simp (disch := omega) only [wk, wt, wl, ↓reduceIte, Nat.reduceEqDiff, Nat.reduceAdd, Nat.zero_add, not_false_eq_true, not_true_eq_false, dK_t]
    refine ⟨Keeps.reads (Ch.wf K04) (Keeps.refl (Ch.wf K04)), ?_⟩
    refine (awake_ok (G.keeps K04)).use ?_
    rintro _ h5 ⟨rfl, K5⟩
    simp (disch := omega) only [wk, wt, wl, ↓reduceIte, Nat.reduceEqDiff, Nat.reduceAdd, Nat.zero_add, not_false_eq_true, not_true_eq_false, dK_t]
    exact ⟨K5.reads (Ch.wf K04), K04.trans K5⟩
theorem viewFinds_law {v fv : Value} {ls : List (List Int)} {l : List F} {cols tab pl pc : Int} {wrap : Bool} {h : Heap} (T : LT h v ls) (R : FR h fv l) (G : Gl h) (HR : RunesOk ls) (hb : sumL ls ≤ 1048576) (hls : ls.length ≤ 1048576) (hl : l.length ≤ 1048576) :
    ACalls prog 4 #[v, lookV fv cols tab wrap, posV pl pc] h (fun y h' => y = .bool true ∧ Keeps h h') := by
  refine acalls_of_W' func4 rfl (by kernel_rfl) (by kernel_rfl) (by simp [ntmps4]) ?_
  intro H
  have N1 := Keeps.new H 25 (lookC fv cols tab wrap)
  have V1 := Var.new (e := 25) H (cs := lookC fv cols tab wrap)
  have LA := fun {hh : Heap} (V : Var hh h.size (lookC fv cols tab wrap)) => V.loadA (P := prog) (t := 25) underlying25 rfl asz25
  have L0 := fun {hh : Heap} (V : Var hh h.size (lookC fv cols tab wrap)) => And.intro (V.load1 (P := prog) (t := 23) underlying23 rfl (i := 0)) (And.intro (V.load1 (P := prog) (t := 3) underlying3 rfl (i := 1)) (And.intro (V.load1 (P := prog) (t := 3) underlying3 rfl (i := 2)) (V.load1 (P := prog) (t := 4) underlying4 rfl (i := 3))))
  simp only [lookC, List.getElem?_cons_succ, List.getElem?_cons_zero] at LA L0
  have bx := boxV_look (h := h) (cols := cols) (tab := tab) (wrap := wrap) R.one
  have RF1 : FR _ fv l := RS.keeps R N1
  have T1 := T.keeps N1
  have G1 := G.keeps N1
  have hlt := V1.lt (Ch.wf N1)
  simp only [lookC] at V1 N1 bx RF1 T1 G1 hlt
  simp only [wk, wt, wl, ↓reduceIte, Nat.reduceEqDiff, Nat.reduceAdd, Nat.zero_add, not_false_eq_true, not_true_eq_false, aeff_box, bx, boxV_pos]
  generalize h.new 25 [fv, .int .i64 cols, .int .i64 tab, .bool wrap] = h1 at *
  have N2 := Keeps.new (Ch.wf N1) 32 [.int .i64 pl, .int .i64 pc]
  have P2 := Var.new (e := 32) (Ch.wf N1) (cs := [.int .i64 pl, .int .i64 pc])
  have K02 := N1.trans N2
  have V2 := Keeps.var (Ch.wf N1) N2 V1
  have WL := fun {hh : Heap} {a b : Int} (V : Var hh h1.size [.int .i64 a, .int .i64 b]) => V.loadA (P := prog) (t := 32) underlying32 rfl asz32
  have WP := fun {hh : Heap} {a b : Int} (V : Var hh h1.size [.int .i64 a, .int .i64 b]) => V.load1 (P := prog) (t := 3) underlying3 rfl (i := 0)
  simp only [List.getElem?_cons_succ, List.getElem?_cons_zero] at WP
  have hlt2 := P2.lt (Ch.wf N2)
  have hle1 := Ch.le N1
  generalize h1.new 32 [.int .i64 pl, .int .i64 pc] = h2 at *
  simp only [wk, wt, wl, ↓reduceIte, Nat.reduceEqDiff, Nat.reduceAdd, Nat.zero_add, not_false_eq_true, not_true_eq_false, LA V2]
  refine (fit_ok (cols := cols) (tab := tab) (wrap := wrap) (T.keeps K02) (RS.keeps R K02) (fun _ => by omega) (by omega) (by omega)).use ?_
  rintro _ h3 ⟨rfl, K3⟩
  have K03 := K02.trans K3
  have V3 := Keeps.var (Ch.wf K02) K3 V2
  have P3 := Keeps.var (Ch.wf K02) K3 P2
  cases hfit : fitB ls l with
  | false =>
    simp only [wk, wt, wl, ↓reduceIte, Nat.reduceEqDiff, Nat.reduceAdd, Nat.zero_add, not_false_eq_true, not_true_eq_false, Bool.not_false]
    exact K03
  | true =>
    obtain ⟨hn, h300, HT, _⟩ := fit_text hfit HR
    simp only [wk, wt, wl, ↓reduceIte, Nat.reduceEqDiff, Nat.reduceAdd, Nat.zero_add, not_false_eq_true, not_true_eq_false, Bool.not_true, L0 V3]
    refine (refViewRows_ok (cols := cols) (tab := tab) (wrap := wrap) (T.keeps K03) (RS.keeps R K03) HT h300 (by omega) hn).use ?_
    rintro rv h4 ⟨r, hrows, hr3, RV, K4⟩
    have K04 := K03.trans K4
    have V4 := Keeps.var (Ch.wf K03) K4 V3
    have P4 := Keeps.var (Ch.wf K03) K4 P3
    have hvl := viewL_len HT (cols := cols) (tab := tab) (wrap := wrap) (r := r)
    have hnear := viewL_near HT (cols := cols) (tab := tab) (wrap := wrap) hrows (by omega)
    simp only [wk, wt, wl, ↓reduceIte, Nat.reduceEqDiff, Nat.reduceAdd, Nat.zero_add, not_false_eq_true, not_true_eq_false, L0 V4, WL P4]
    by_cases h0 : ls.length = 0
    · refine (viewFind_ok (pl := pl) (pc := pc) (tab := tab) (T.keeps K04) RV (G.keeps K04) HT (by omega) (by omega) hnear (fun i j x y _ hx => by
        exfalso
        have hz : r = [] := by
          cases hrows with
          | done _ => rfl
          | step h _ => omega
        subst hz
        simp [viewL] at hx)).use ?_
      rintro _ h5 ⟨a, b, rfl, HF, K5⟩
      have K05 := K04.trans K5
      have V5 := Keeps.var (Ch.wf K04) K5 V4
      have P5 := Keeps.var (Ch.wf K04) K5 P4
      simp only [wk, wt, wl, ↓reduceIte, Nat.reduceEqDiff, Nat.reduceAdd, Nat.zero_add, not_false_eq_true, not_true_eq_false, L0 V5, WL P5]
      refine (refFind_ok (pl := pl) (pc := pc) (tab := tab) (T.keeps K05) (RS.keeps RV K5) HT (by omega) (by omega) hnear).use ?_
      rintro _ h6 ⟨a', b', rfl, HF', K6⟩
      have K06 := K05.trans K6
      have e1 : a = 0 ∧ b = 0 := by
        rcases HF with ⟨_, q⟩ | ⟨q, _⟩
        · exact q
        · exact absurd h0 q
      have e2 : a' = 0 ∧ b' = 0 := by
        rcases HF' with ⟨_, q⟩ | ⟨q, _⟩
        · exact q
        · exact absurd h0 q
      obtain ⟨rfl, rfl⟩ := e1
      obtain ⟨rfl, rfl⟩ := e2
      have d1 : decide (¬ (0 : Int) = 0) = false := by decide
      have d2 : decide ((ls.length : Int) = 0) = true := decide_eq_true (by omega)
      simp only [wk, wt, wl, ↓reduceIte, Nat.reduceEqDiff, Nat.reduceAdd, Nat.zero_add, not_false_eq_true, not_true_eq_false, d1, d2, (T.keeps K06).len]
      refine (awake_ok (G.keeps K06)).use ?_
      rintro _ h7 ⟨rfl, K7⟩
      simp only [wk, wt, wl, ↓reduceIte, Nat.reduceEqDiff, Nat.reduceAdd, Nat.zero_add, not_false_eq_true, not_true_eq_false]
      exact K06.trans K7
    · obtain ⟨i, x, S⟩ := view_showing HT (cols := cols) (tab := tab) (wrap := wrap) hrows h0 pl pc
      refine (viewFind_ok (pl := pl) (pc := pc) (tab := tab) (T.keeps K04) RV (G.keeps K04) HT (by omega) (by omega) hnear S.mono).use ?_
      rintro _ h5 ⟨a, b, rfl, HF, K5⟩
      have K05 := K04.trans K5
      have V5 := Keeps.var (Ch.wf K04) K5 V4
      have P5 := Keeps.var (Ch.wf K04) K5 P4
      simp only [wk, wt, wl, ↓reduceIte, Nat.reduceEqDiff, Nat.reduceAdd, Nat.zero_add, not_false_eq_true, not_true_eq_false, L0 V5, WL P5]
      refine (refFind_ok (pl := pl) (pc := pc) (tab := tab) (T.keeps K05) (RS.keeps RV K5) HT (by omega) (by omega) hnear).use ?_
      rintro _ h6 ⟨a', b', rfl, HF', K6⟩
      have K06 := K05.trans K6
      have P6 := Keeps.var (Ch.wf K05) K6 P5
      obtain ⟨ha, hb1⟩ := findV_at h0 S HF
      obtain ⟨ha', hb1'⟩ := findR_at h0 S HF'
      have ea : a' = a := by rw [ha, ha']
      have eb : b' = b := by rw [hb1, hb1']
      subst ea; subst eb
      subst ha
      have da : decide (¬ (i : Int) = i) = false := decide_eq_false (by simp)
      have db : decide (¬ b' = b') = false := decide_eq_false (by simp)
      have d2 : decide ((ls.length : Int) = 0) = false := decide_eq_false (by omega)
      simp only [wk, wt, wl, ↓reduceIte, Nat.reduceEqDiff, Nat.reduceAdd, Nat.zero_add, not_false_eq_true, not_true_eq_false, da, db, d2, (T.keeps K06).len, WL P6]
      refine (refClip_ok (pl := pl) (pc := pc) (T.keeps K06) HT (by omega)).use ?_
      rintro _ h7 ⟨rfl, K7⟩
      have K07 := K06.trans K7
      have P7 := Keeps.var (Ch.wf K06) K7 P6
      have RV7 : RR h7 rv _ := RS.keeps RV ((K5.trans K6).trans K7)
      obtain ⟨h8, e8, P8, C8, z8⟩ := P7.store (P := prog) (t := 32) (v := .agg #[.int .i64 (clipL ls pl), .int .i64 (clipC ls pl pc)]) (i := 0) (Ch.wf K7) asz32 (by simp [Value.cells]) (by simp [Value.cells, one])
      have e8' : storeV prog h7 32 (.pointer (some ⟨h1.size, 0, none⟩)) (posV (clipL ls pl) (clipC ls pl pc)) = some (undef, h8) := e8
      simp only [Value.cells, over_all (xs := [.int .i64 pl, .int .i64 pc]) (vs := [.int .i64 (clipL ls pl), .int .i64 (clipC ls pl pc)]) rfl] at P8
      have K08 := K07.step C8 fun b hb => by omega
      have hil := (List.getElem?_eq_some_iff.1 S.at_).1
      have hne8 := Rd.ne_var RV P4 (by simp only [List.length_cons, List.length_nil]; omega)
      have RV8 : RR h8 rv _ := Ch.rd C8 RV7 hne8
      obtain ⟨F0, F1, F2, F3, F4⟩ := RR.flds RV8 S.at_
      have IX := Rd.index RV8 underlying28 asz37 (q := .i64) (i := (i : Int)) (by omega) (by omega)
      simp only [Int.toNat_natCast] at IX
      have hnr := hnear x (List.mem_of_getElem? S.at_)
      have hfold := S.fold
      have hline := S.line
      have hcr := colAt_range HT (tab := tab) (pl := pl) (pc := pc)
      clear S HF HF'
      obtain ⟨ln, fr, to, fo⟩ := x
      simp only at F0 F1 F2 F3 F4 hnr hfold hline hb1
      have N9 := Keeps.new (Ch.wf K08) 37 [Value.int IntKind.i64 0, Value.int IntKind.i64 0, Value.int IntKind.i64 0, Value.bool false]
      have X9 := Var.new (e := 37) (Ch.wf K08) (cs := [Value.int IntKind.i64 0, Value.int IntKind.i64 0, Value.int IntKind.i64 0, Value.bool false])
      obtain ⟨h9, e9, Vf, C9, z9⟩ := X9.store (P := prog) (t := 37) (v := .agg #[.int .i64 ln, .int .i64 fr, .int .i64 to, .bool fo]) (i := 0) (Ch.wf N9) asz37 (by simp [Value.cells]) (by simp [Value.cells, one])
      simp only [Value.cells, over_all (xs := [Value.int IntKind.i64 0, Value.int IntKind.i64 0, Value.int IntKind.i64 0, Value.bool false]) (vs := [.int .i64 ln, .int .i64 fr, .int .i64 to, .bool fo]) rfl] at Vf
      have K19 := N9.step C9 (fun b hb => by omega)
      clear N9 X9 C9
      have K09 := K08.trans K19
      have P9 := Keeps.var (Ch.wf K08) K19 P8
      have A0 := Vf.load1 (P := prog) (t := 3) underlying3 rfl (i := 0)
      have A1 := Vf.load1 (P := prog) (t := 3) underlying3 rfl (i := 1)
      have A2 := Vf.load1 (P := prog) (t := 3) underlying3 rfl (i := 2)
      have A3 := Vf.load1 (P := prog) (t := 4) underlying4 rfl (i := 3)
      simp only [List.getElem?_cons_succ, List.getElem?_cons_zero] at A0 A1 A2 A3
      have WP9 := WP P9
      cases fo with
      | true =>
        obtain ⟨q1, q2⟩ := hfold rfl
        rw [if_pos rfl] at hb1
        have ws : IntKind.i64.wrap (ln + to) = ln + to := IntWalk.i64_in _ (by omega)
        have d3 : decide (b' = 0) = true := decide_eq_true hb1
        have d4 : decide (ln ≤ clipL ls pl) = true := decide_eq_true q1
        have d5 : decide (clipL ls pl < ln + to) = true := decide_eq_true q2
        simp (disch := omega) only [wk, wt, wl, ↓reduceIte, Nat.reduceEqDiff, Nat.reduceAdd, Nat.zero_add, not_false_eq_true, not_true_eq_false, e8', IX, F4, e9, A0, A1, A2, A3, WP9, ws, d3, d4, d5]
        refine (awake_ok (G.keeps K09)).use ?_
        rintro _ h10 ⟨rfl, K10⟩
        simp only [wk, wt, wl, ↓reduceIte, Nat.reduceEqDiff, Nat.reduceAdd, Nat.zero_add, not_false_eq_true, not_true_eq_false]
        exact K09.trans K10
      | false =>
        obtain ⟨q1, q2, q3⟩ := hline rfl
        rw [if_neg (by simp)] at hb1
        have ws : IntKind.i64.wrap (to - fr) = to - fr := IntWalk.i64_in _ (by omega)
        have d3 : decide (clipL ls pl = ln) = true := decide_eq_true q1.symm
        have d4 : decide (0 ≤ b') = true := decide_eq_true (by omega)
        by_cases c5 : b' < to - fr
        · have d5 := decide_eq_true c5
          simp (disch := omega) only [wk, wt, wl, ↓reduceIte, Nat.reduceEqDiff, Nat.reduceAdd, Nat.zero_add, not_false_eq_true, not_true_eq_false, e8', IX, F4, e9, A0, A1, A2, A3, WP9, ws, d3, d4, d5]
          refine (awake_ok (G.keeps K09)).use ?_
          rintro _ h10 ⟨rfl, K10⟩
          simp only [wk, wt, wl, ↓reduceIte, Nat.reduceEqDiff, Nat.reduceAdd, Nat.zero_add, not_false_eq_true, not_true_eq_false]
          exact K09.trans K10
        · have d5 := decide_eq_false c5
          have d6 : decide (b' = 0) = true := decide_eq_true (by omega)
          have d7 : decide (to = fr) = true := decide_eq_true (by omega)
          simp (disch := omega) only [wk, wt, wl, ↓reduceIte, Nat.reduceEqDiff, Nat.reduceAdd, Nat.zero_add, not_false_eq_true, not_true_eq_false, e8', IX, F4, e9, A0, A1, A2, A3, WP9, ws, d3, d4, d5, d6, d7]
          refine (awake_ok (G.keeps K09)).use ?_
          rintro _ h10 ⟨rfl, K10⟩
          simp only [wk, wt, wl, ↓reduceIte, Nat.reduceEqDiff, Nat.reduceAdd, Nat.zero_add, not_false_eq_true, not_true_eq_false]
          exact K09.trans K10
end Go.Proofs.YtmjdebeikcogkaaDoor.Am
end
section
/- Views: rows part a line's units, in plain terms; no program is walked. -/
set_option linter.unusedSimpArgs false
set_option linter.unusedVariables false
set_option maxHeartbeats 4000000
namespace Go.Proofs.YtmjdebeikcogkaaDoor.Am
open Go Go.RowKit Go.Proofs.Tryd
/-- Rows from a column on part units: each has some, ends with its last one, and is no wider than the window if it has more than one. -/
inductive Parts (cols : Int) : Int → List U → List (Int × Int) → Prop
  | done {c : Int} : Parts cols c [] []
  | row {c b : Int} {g us : List U} {u : U} {ps : List (Int × Int)} (hc : c ≤ b) (hg : ∀ v, v ∈ g ++ [u] → v.col < b) (hu : u.col + u.wd = b) (hw : g = [] ∨ b - c ≤ cols) (hr : ∀ v, v ∈ us → b ≤ v.col) (t : Parts cols b us ps) : Parts cols c (g ++ u :: us) ((c, b) :: ps)
theorem chain_ge {a c b e : Int} {us : List U} (H : Chain a c us b e) : ∀ v, v ∈ us → c ≤ v.col := by
  induction H with
  | nil => intro v hv; simp at hv
  | cons h1 h2 h3 h4 h5 h ih =>
    intro v hv
    rcases List.mem_cons.1 hv with rfl | hv
    · omega
    · have := ih v hv; omega
theorem rowsG_parts {cols : Int} : ∀ {us : List U} {a b t e f : Int} {g : List U} {u : U}, Chain a t us b e → f ≤ t → 0 < t → (∀ v, v ∈ g ++ [u] → v.col < t) → u.col + u.wd = t → (g = [] ∨ t - f ≤ cols) → Parts cols f (g ++ u :: us) (rowsG cols true us f t)
  | _, _, _, _, _, _, g, u, .nil, h0, h1, h2, h3, h4 => .row h0 h2 h3 h4 (fun v hv => by simp at hv) .done
  | _, _, _, t, e, f, g, u, .cons (u := v) (us := us) c1 c2 c3 c4 c5 h, h0, h1, h2, h3, h4 => by
    rw [rowsG]
    split
    · rename_i hm
      have hfit : v.col + v.wd - f ≤ cols := by
        rcases hm with hm | hm | hm
        · cases hm
        · omega
        · exact hm
      have := rowsG_parts (cols := cols) (f := f) (g := g ++ [u]) (u := v) h (by omega) (by omega) (fun w hw => by
        rcases List.mem_append.1 hw with hw | hw
        · have := h2 w hw; omega
        · simp at hw; subst hw; omega) rfl (.inr hfit)
      simpa using this
    · have := rowsG_parts (cols := cols) (f := v.col) (g := []) (u := v) h (by omega) (by omega) (fun w hw => by simp at hw; subst hw; omega) rfl (.inl rfl)
      rw [c3] at this ⊢
      refine .row h0 h2 h3 h4 (fun w hw => ?_) this
      rcases List.mem_cons.1 hw with rfl | hw
      · omega
      · have := chain_ge h w hw; omega
theorem rowsG_ne {cols : Int} {wrap : Bool} : ∀ {us : List U} {f t : Int}, rowsG cols wrap us f t ≠ []
  | [], f, t => by simp [rowsG]
  | u :: us, f, t => by
    rw [rowsG]
    split
    · exact rowsG_ne
    · simp
/-- As far as a line's rows are looked at. -/
def PartsE (cols c : Int) (us : List U) (ps : List (Int × Int)) : Prop := Parts cols c us ps ∨ us = [] ∧ ps = [(0, 0)] ∧ c = 0
theorem rowsL_parts {line : List Int} {tab cols : Int} : PartsE cols 0 (unitsL line tab) (rowsG cols true (unitsL line tab) 0 0) := by
  by_cases h0 : line.length = 0
  · right
    have hl := (unitsL_ok (line := line) (tab := tab)).len
    exact ⟨List.eq_nil_of_length_eq_zero (by omega), rowsL_nil h0, rfl⟩
  · left
    obtain ⟨w, H, e⟩ := unitsL_chain (line := line) (tab := tab)
    generalize unitsL line tab = us at H ⊢
    generalize hn : (line.length : Int) = n at H
    have hn0 : n ≠ 0 := by omega
    cases H with
    | nil => exact absurd rfl hn0
    | cons h1 h2 h3 h4 h5 h =>
      rw [rowsG, if_pos (.inr (.inl h3))]
      exact rowsG_parts (g := []) h (by omega) (by omega) (fun v hv => by simp at hv; subst hv; omega) rfl (.inl rfl)
theorem shut_in {l : List F} (hr : rightB l = true) {k : Nat} {f : F} (hx : l[k]? = some f) (hc : f.cl = true) {x : Int} (h1 : f.fr ≤ x) (h2 : x ≤ f.to) : shutF l x = some k ∧ shownZ l x = (f.fr, f.to) := by
  obtain ⟨r1, r2, _⟩ := rightB_at hr
  have hin : inF l x = some k := by
    rw [inF_find hr (x := x) (i := k) (fun j g hj hg => by have := r2 j k g f hj hg hx; omega) (fun g hg => by rw [hx] at hg; cases hg; omega), hx]
    simp [h1]
  have hs : shutF l x = some k := by simp [shutF, hin, hx, hc]
  exact ⟨hs, by simp [shownZ, hr, hs, hx]⟩
/-- Behind what is shown with a line a row begins. -/
theorem head_next {l : List F} (hr : rightB l = true) {x : Int} (hx : (shownZ l x).1 = x) : (shownZ l ((shownZ l x).2 + 1)).1 = (shownZ l x).2 + 1 := by
  obtain ⟨r1, r2, _⟩ := rightB_at hr
  rcases shownZ_range (l := l) (x := (shownZ l x).2 + 1) with e | ⟨k', g, hs', _, hg, hgc, g1, g2, e⟩
  · rw [e]
  · rw [e]
    simp only
    rcases shownZ_range (l := l) (x := x) with e0 | ⟨k, f, hs, _, hf, hfc, f1, f2, e0⟩
    · rw [e0] at g1 g2 ⊢
      simp only at g1 g2 ⊢
      by_cases hle : g.fr ≤ x
      · have := (shut_in hr hg hgc hle (by omega)).2
        rw [e0] at this
        simp only [Prod.mk.injEq] at this; omega
      · omega
    · rw [e0] at g1 g2 ⊢
      simp only at g1 g2 ⊢
      rcases Nat.lt_trichotomy k' k with h | h | h
      · have := r2 k' k g f h hg hf; have := r1 k f hf; omega
      · subst h; rw [hf] at hg; cases hg; omega
      · have := r2 k k' f g h hf hg; omega
/-- A closed fold has more than a line. -/
theorem next_shut {l : List F} (hr : rightB l = true) {i : Int} (hh : (shownZ l i).1 = i) (hs : (shutF l i).isSome = true) : nextZ1 l i ≠ i + 1 := by
  obtain ⟨r1, r2, _⟩ := rightB_at hr
  rcases shownZ_range (l := l) (x := i) with e | ⟨k, f, hs', _, hf, hfc, f1, f2, e⟩
  · cases hk : shutF l i with
    | none => rw [hk] at hs; cases hs
    | some k =>
      obtain ⟨f, hf, hc, g1, g2, _⟩ := shutF_some hk
      have := (shut_in hr hf hc g1 g2).2
      have := r1 k f hf
      unfold nextZ1
      rw [(shut_in hr hf hc g1 g2).2] at hh ⊢
      simp only at hh ⊢
      omega
  · have := r1 k f hf
    unfold nextZ1
    rw [e] at hh ⊢
    simp only at hh ⊢
    omega
theorem rightOr_right {l : List F} : rightB (rightOr l) = true := by
  unfold rightOr
  split
  · assumption
  · rfl
theorem rightOr_near {l : List F} (h : nearF l = true) : nearF (rightOr l) = true := by
  unfold rightOr
  split
  · exact h
  · rfl
theorem nextZ1_lt (l : List F) (i : Int) : i < nextZ1 l i := by
  unfold nextZ1
  rcases shownZ_range (l := l) (x := i) with e | ⟨k, f, _, _, _, _, f1, f2, e⟩
  · rw [e]; simp only; omega
  · rw [e]; simp only; omega
end Go.Proofs.YtmjdebeikcogkaaDoor.Am
end
