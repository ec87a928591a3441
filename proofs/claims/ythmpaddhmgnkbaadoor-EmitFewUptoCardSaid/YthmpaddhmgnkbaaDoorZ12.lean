/- The texts of this seat, one behind another (part 12 of 25): the frame (an abstract machine), the contracts of functions, the laws. -/
import Derived.Test.YthmpaddhmgnkbaaDoorZ11
import Derived.Test.YthmpaddhmgnkbaaDoorZ10
import Derived.Laws.BitsLemmas
section
/- Scalars; whether two rows of runes are the same: contracts of utf.Valid and of the document's Valid and Runes, by walks. -/
set_option linter.unusedSimpArgs false
set_option linter.unusedVariables false
set_option maxRecDepth 20000
set_option maxHeartbeats 1000000
namespace Go.Proofs.YthmpaddhmgnkbaaDoor.Am
open Go Go.RowKit Go.Proofs.Tryd
def isR (r : Int) : Prop := -2147483648 ≤ r ∧ r ≤ 2147483647
def validB (r : Int) : Bool := decide ((0 ≤ r ∧ r < 55296) ∨ (57343 < r ∧ r ≤ 1114111))
theorem valid_ok {r : Int} {h : Heap} (h0 : isR r) : ACalls prog 75 #[.int .i32 r] h (fun v h' => v = .bool (validB r) ∧ h' = h) := by
  obtain ⟨h0, h1⟩ := h0
  refine acalls_of_W func75 rfl (by kernel_rfl) (by kernel_rfl) (by simp [ntmps75]) ?_
  simp only [wk, wt, wl, ↓reduceIte, Nat.reduceEqDiff, Nat.reduceAdd, wz, aconv, IntKind.wrap_u32]
  repeat' (first
      | (with_reducible refine condK_dec (fun hc => ?_) (fun hc => ?_) <;> simp only [wk, wt, wl, ↓reduceIte, Nat.reduceEqDiff, Nat.reduceAdd, wz, aconv, IntKind.wrap_u32, hc])
      | (with_reducible refine condK_split (fun hc => ?_) (fun hc => ?_) <;> simp only [wk, wt, wl, ↓reduceIte, Nat.reduceEqDiff, Nat.reduceAdd, wz, aconv, IntKind.wrap_u32, hc])
      | (with_reducible refine gateO_dec (fun hc => ?_) (fun hc => ?_) <;> simp only [wk, wt, wl, ↓reduceIte, Nat.reduceEqDiff, Nat.reduceAdd, wz, aconv, IntKind.wrap_u32, hc])
      | (with_reducible refine gateO_decF (fun hc => ?_) (fun hc => ?_) <;> simp only [wk, wt, wl, ↓reduceIte, Nat.reduceEqDiff, Nat.reduceAdd, wz, aconv, IntKind.wrap_u32, hc])
      | (with_reducible refine gateO_boolT (fun hc => ?_) (fun hc => ?_) <;> simp only [wk, wt, wl, ↓reduceIte, Nat.reduceEqDiff, Nat.reduceAdd, wz, aconv, IntKind.wrap_u32, hc])
      | (with_reducible refine gateO_boolF (fun hc => ?_) (fun hc => ?_) <;> simp only [wk, wt, wl, ↓reduceIte, Nat.reduceEqDiff, Nat.reduceAdd, wz, aconv, IntKind.wrap_u32, hc]))
  all_goals (simp only [validB, and_true, Value.bool.injEq, eqT, eqF, decide_eq_decide]; omega)
theorem refValid_ok {r : Int} {h : Heap} (h0 : isR r) : ACalls prog 63 #[.int .i32 r] h (fun v h' => v = .bool (validB r) ∧ h' = h) := by
  obtain ⟨h0, h1⟩ := h0
  refine acalls_of_W func63 rfl (by kernel_rfl) (by kernel_rfl) (by simp [ntmps63]) ?_
  simp only [wk, wt, wl, ↓reduceIte, Nat.reduceEqDiff, Nat.reduceAdd, wz]
  repeat' (first
      | (with_reducible refine condK_dec (fun hc => ?_) (fun hc => ?_) <;> simp only [wk, wt, wl, ↓reduceIte, Nat.reduceEqDiff, Nat.reduceAdd, wz, hc])
      | (with_reducible refine condK_split (fun hc => ?_) (fun hc => ?_) <;> simp only [wk, wt, wl, ↓reduceIte, Nat.reduceEqDiff, Nat.reduceAdd, wz, hc])
      | (with_reducible refine gateO_dec (fun hc => ?_) (fun hc => ?_) <;> simp only [wk, wt, wl, ↓reduceIte, Nat.reduceEqDiff, Nat.reduceAdd, wz, hc])
      | (with_reducible refine gateO_decF (fun hc => ?_) (fun hc => ?_) <;> simp only [wk, wt, wl, ↓reduceIte, Nat.reduceEqDiff, Nat.reduceAdd, wz, hc])
      | (with_reducible refine gateO_boolT (fun hc => ?_) (fun hc => ?_) <;> simp only [wk, wt, wl, ↓reduceIte, Nat.reduceEqDiff, Nat.reduceAdd, wz, hc])
      | (with_reducible refine gateO_boolF (fun hc => ?_) (fun hc => ?_) <;> simp only [wk, wt, wl, ↓reduceIte, Nat.reduceEqDiff, Nat.reduceAdd, wz, hc]))
  all_goals (simp only [validB, and_true, Value.bool.injEq, eqT, eqF, decide_eq_decide]; omega)
def intOf : Value → Int
  | .int _ x => x
  | _ => 0
theorem intOf_int {k : IntKind} {x : Int} : intOf (.int k x) = x := rfl
theorem getD_ext {xs ys : List Int} (hl : xs.length = ys.length) (h : ∀ i, i < xs.length → xs.getD i 0 = ys.getD i 0) : xs = ys := by
  refine List.ext_getElem hl fun i h1 h2 => ?_
  have := h i h1
  simpa [h1, h2] using this
theorem runes_ok {a b : Value} {xs ys : List Int} {h : Heap} (ha : RdI prog h .i32 a xs) (hb : RdI prog h .i32 b ys) (hlen : xs.length < 9223372036854775807) : ACalls prog 58 #[a, b] h (fun v h' => v = .bool (decide (xs = ys)) ∧ h' = h) := by
  refine acalls_of_W func58 rfl (by kernel_rfl) (by kernel_rfl) (by simp [ntmps58]) ?_
  simp only [wk, wt, wl, ↓reduceIte, Nat.reduceEqDiff, Nat.reduceAdd, wz, Rd.len ha underlying43, Rd.len hb underlying43]
  refine condK_dec (fun hc => ?_) (fun hc => ?_)
  · simp only [wk, wt, wl, ↓reduceIte, Nat.reduceEqDiff, Nat.reduceAdd, wz]
    refine ⟨?_, trivial⟩
    have : ¬ xs = ys := fun e => hc (by rw [e])
    simp [this]
  · have hl : xs.length = ys.length := by omega
    simp only [wk, wt, wl, ↓reduceIte, Nat.reduceEqDiff, Nat.reduceAdd, wz]
    refine W_loop (fun tm h' => h' = h ∧ tm 0 = a ∧ tm 1 = b ∧ ∃ i : Nat, tm 5 = .int .i64 i ∧ i ≤ xs.length ∧ ∀ j, j < i → xs.getD j 0 = ys.getD j 0) (fun tm _ => (xs.length - intOf (tm 5)).toNat) ⟨rfl, by simp only [wk, wt, wl, ↓reduceIte, Nat.reduceEqDiff, Nat.reduceAdd, wz], by simp only [wk, wt, wl, ↓reduceIte, Nat.reduceEqDiff, Nat.reduceAdd, wz], 0, by simp only [wk, wt, wl, ↓reduceIte, Nat.reduceEqDiff, Nat.reduceAdd, wz]; rfl, by omega, fun j hj => by omega⟩ ?_
    rintro tm h' ⟨rfl, h0, h1, i, h5, hi, hj⟩
    simp only [wk, wt, wl, ↓reduceIte, Nat.reduceEqDiff, Nat.reduceAdd, wz, h0, h1, h5, Rd.len ha underlying43]
    refine condK_dec (fun hc => ?_) (fun hc => ?_)
    · simp only [wk, wt, wl, ↓reduceIte, Nat.reduceEqDiff, Nat.reduceAdd, wz]
      refine adraw_order [(0, false), (1, false), (2, false), (3, false), (4, false), (5, false), (6, false), (7, false), (8, false)] mixed (by kernel_rfl) (by kernel_rfl) (by kernel_rfl) (by with_reducible repeat (first | exact PF_retK | refine PF_thenK ?_ | refine PF_blockK ?_)) ?_
      simp only [wk, wt, wl, ↓reduceIte, Nat.reduceEqDiff, Nat.reduceAdd, wz, h0, h1, h5, Rd.index ha underlying43 asz21 (q := .i64) (i := i) (by omega) (by omega), Rd.index hb underlying43 asz21 (q := .i64) (i := i) (by omega) (by omega), RdI.at ha underlying21 rfl (i := i) (by omega), RdI.at hb underlying21 rfl (i := i) (by omega)]
      refine condK_dec (fun hd => ?_) (fun hd => ?_)
      · simp only [wk, wt, wl, ↓reduceIte, Nat.reduceEqDiff, Nat.reduceAdd, wz]
        have : ¬ xs = ys := fun e => hd (by rw [e])
        simp [this]
      · simp (disch := omega) only [wk, wt, wl, ↓reduceIte, Nat.reduceEqDiff, Nat.reduceAdd, wz, h0, h1, h5, IntWalk.i64_in, intOf_int]
        refine ⟨⟨i + 1, by simp, by omega, fun j hj' => ?_⟩, by omega⟩
        by_cases e : j = i
        · subst e; exact Decidable.not_not.1 hd
        · exact hj j (by omega)
    · simp only [wk, wt, wl, ↓reduceIte, Nat.reduceEqDiff, Nat.reduceAdd, wz]
      have : xs = ys := getD_ext hl fun j hj' => hj j (by omega)
      simp [this]
end Go.Proofs.YthmpaddhmgnkbaaDoor.Am
end
section
/- What the small functions over runes answer: contracts, by walks. -/
set_option linter.unusedSimpArgs false
set_option linter.unusedVariables false
set_option maxHeartbeats 1000000
namespace Go.Proofs.YthmpaddhmgnkbaaDoor.Am
open Go Go.RowKit Go.Proofs.Tryd
def zeroB (r : Int) : Bool := decide ((768 ≤ r ∧ r ≤ 879) ∨ (8203 ≤ r ∧ r ≤ 8207) ∨ (8400 ≤ r ∧ r ≤ 8447) ∨ (65024 ≤ r ∧ r ≤ 65039))
def wideB (r : Int) : Bool := decide ((4352 ≤ r ∧ r ≤ 4447) ∨ (11904 ≤ r ∧ r ≤ 12350) ∨ (12353 ≤ r ∧ r ≤ 19903) ∨ (19968 ≤ r ∧ r ≤ 42191) ∨ (44032 ≤ r ∧ r ≤ 55203) ∨ (63744 ≤ r ∧ r ≤ 64255) ∨ (65072 ≤ r ∧ r ≤ 65135) ∨ (65280 ≤ r ∧ r ≤ 65376) ∨ (65504 ≤ r ∧ r ≤ 65510) ∨ (127744 ≤ r ∧ r ≤ 128591) ∨ (129280 ≤ r ∧ r ≤ 129535) ∨ (131072 ≤ r ∧ r ≤ 262141))
def ctlB (r : Int) : Bool := decide ((0 ≤ r ∧ r < 32) ∨ r = 127)
def widthZ (r : Int) : Int := if zeroB r = true then 0 else if wideB r = true ∨ ctlB r = true then 2 else 1
theorem zero_ok {r : Int} {h : Heap} : ACalls prog 64 #[.int .i32 r] h (fun v h' => v = .bool (zeroB r) ∧ h' = h) := by
  refine acalls_of_W func64 rfl (by kernel_rfl) (by kernel_rfl) (by simp [ntmps64]) ?_
  simp only [wk, wt, wl, ↓reduceIte, Nat.reduceEqDiff, Nat.reduceAdd, wz]
  repeat' (first
      | (with_reducible refine condK_dec (fun hc => ?_) (fun hc => ?_) <;> simp only [wk, wt, wl, ↓reduceIte, Nat.reduceEqDiff, Nat.reduceAdd, wz, hc])
      | (with_reducible refine condK_split (fun hc => ?_) (fun hc => ?_) <;> simp only [wk, wt, wl, ↓reduceIte, Nat.reduceEqDiff, Nat.reduceAdd, wz, hc])
      | (with_reducible refine gateO_dec (fun hc => ?_) (fun hc => ?_) <;> simp only [wk, wt, wl, ↓reduceIte, Nat.reduceEqDiff, Nat.reduceAdd, wz, hc])
      | (with_reducible refine gateO_decF (fun hc => ?_) (fun hc => ?_) <;> simp only [wk, wt, wl, ↓reduceIte, Nat.reduceEqDiff, Nat.reduceAdd, wz, hc])
      | (with_reducible refine gateO_boolT (fun hc => ?_) (fun hc => ?_) <;> simp only [wk, wt, wl, ↓reduceIte, Nat.reduceEqDiff, Nat.reduceAdd, wz, hc])
      | (with_reducible refine gateO_boolF (fun hc => ?_) (fun hc => ?_) <;> simp only [wk, wt, wl, ↓reduceIte, Nat.reduceEqDiff, Nat.reduceAdd, wz, hc]))
  all_goals (simp only [zeroB, and_true, Value.bool.injEq, eqT, eqF, decide_eq_decide]; omega)
theorem ctl_ok {r : Int} {h : Heap} : ACalls prog 62 #[.int .i32 r] h (fun v h' => v = .bool (ctlB r) ∧ h' = h) := by
  refine acalls_of_W func62 rfl (by kernel_rfl) (by kernel_rfl) (by simp [ntmps62]) ?_
  simp only [wk, wt, wl, ↓reduceIte, Nat.reduceEqDiff, Nat.reduceAdd, wz]
  repeat' (first
      | (with_reducible refine condK_dec (fun hc => ?_) (fun hc => ?_) <;> simp only [wk, wt, wl, ↓reduceIte, Nat.reduceEqDiff, Nat.reduceAdd, wz, hc])
      | (with_reducible refine condK_split (fun hc => ?_) (fun hc => ?_) <;> simp only [wk, wt, wl, ↓reduceIte, Nat.reduceEqDiff, Nat.reduceAdd, wz, hc])
      | (with_reducible refine gateO_dec (fun hc => ?_) (fun hc => ?_) <;> simp only [wk, wt, wl, ↓reduceIte, Nat.reduceEqDiff, Nat.reduceAdd, wz, hc])
      | (with_reducible refine gateO_decF (fun hc => ?_) (fun hc => ?_) <;> simp only [wk, wt, wl, ↓reduceIte, Nat.reduceEqDiff, Nat.reduceAdd, wz, hc])
      | (with_reducible refine gateO_boolT (fun hc => ?_) (fun hc => ?_) <;> simp only [wk, wt, wl, ↓reduceIte, Nat.reduceEqDiff, Nat.reduceAdd, wz, hc])
      | (with_reducible refine gateO_boolF (fun hc => ?_) (fun hc => ?_) <;> simp only [wk, wt, wl, ↓reduceIte, Nat.reduceEqDiff, Nat.reduceAdd, wz, hc]))
  all_goals (simp only [ctlB, and_true, Value.bool.injEq, eqT, eqF, decide_eq_decide]; omega)
theorem wide_ok {r : Int} {h : Heap} : ACalls prog 65 #[.int .i32 r] h (fun v h' => v = .bool (wideB r) ∧ h' = h) := by
  refine acalls_of_W func65 rfl (by kernel_rfl) (by kernel_rfl) (by simp [ntmps65]) ?_
  rcases (show r < 4352 ∨ (4352 ≤ r ∧ r ≤ 4447) ∨ (4448 ≤ r ∧ r < 11904) ∨ (11904 ≤ r ∧ r ≤ 12350) ∨ (12351 ≤ r ∧ r < 12353) ∨ (12353 ≤ r ∧ r ≤ 19903) ∨ (19904 ≤ r ∧ r < 19968) ∨ (19968 ≤ r ∧ r ≤ 42191) ∨ (42192 ≤ r ∧ r < 44032) ∨ (44032 ≤ r ∧ r ≤ 55203) ∨ (55204 ≤ r ∧ r < 63744) ∨ (63744 ≤ r ∧ r ≤ 64255) ∨ (64256 ≤ r ∧ r < 65072) ∨ (65072 ≤ r ∧ r ≤ 65135) ∨ (65136 ≤ r ∧ r < 65280) ∨ (65280 ≤ r ∧ r ≤ 65376) ∨ (65377 ≤ r ∧ r < 65504) ∨ (65504 ≤ r ∧ r ≤ 65510) ∨ (65511 ≤ r ∧ r < 127744) ∨ (127744 ≤ r ∧ r ≤ 128591) ∨ (128592 ≤ r ∧ r < 129280) ∨ (129280 ≤ r ∧ r ≤ 129535) ∨ (129536 ≤ r ∧ r < 131072) ∨ (131072 ≤ r ∧ r ≤ 262141) ∨ 262142 ≤ r from by omega) with hi | hi | hi | hi | hi | hi | hi | hi | hi | hi | hi | hi | hi | hi | hi | hi | hi | hi | hi | hi | hi | hi | hi | hi | hi
  all_goals simp (disch := omega) only [wk, wt, wl, ↓reduceIte, Nat.reduceEqDiff, Nat.reduceAdd, wz, decide_eq_true, decide_eq_false]
  all_goals (simp only [wideB, and_true, Value.bool.injEq, eqT, eqF]; omega)
theorem refWidth_ok {r : Int} {h : Heap} : ACalls prog 42 #[.int .i32 r] h (fun v h' => v = .int .i64 (widthZ r) ∧ h' = h) := by
  refine acalls_of_W func42 rfl (by kernel_rfl) (by kernel_rfl) (by simp [ntmps42]) ?_
  simp only [wk, wt, wl, ↓reduceIte, Nat.reduceEqDiff, Nat.reduceAdd, wz]
  repeat' (first
      | (with_reducible refine condK_dec (fun hc => ?_) (fun hc => ?_) <;> simp only [wk, wt, wl, ↓reduceIte, Nat.reduceEqDiff, Nat.reduceAdd, wz, hc])
      | (with_reducible refine condK_split (fun hc => ?_) (fun hc => ?_) <;> simp only [wk, wt, wl, ↓reduceIte, Nat.reduceEqDiff, Nat.reduceAdd, wz, hc])
      | (with_reducible refine gateO_dec (fun hc => ?_) (fun hc => ?_) <;> simp only [wk, wt, wl, ↓reduceIte, Nat.reduceEqDiff, Nat.reduceAdd, wz, hc])
      | (with_reducible refine gateO_decF (fun hc => ?_) (fun hc => ?_) <;> simp only [wk, wt, wl, ↓reduceIte, Nat.reduceEqDiff, Nat.reduceAdd, wz, hc])
      | (with_reducible refine gateO_boolT (fun hc => ?_) (fun hc => ?_) <;> simp only [wk, wt, wl, ↓reduceIte, Nat.reduceEqDiff, Nat.reduceAdd, wz, hc])
      | (with_reducible refine gateO_boolF (fun hc => ?_) (fun hc => ?_) <;> simp only [wk, wt, wl, ↓reduceIte, Nat.reduceEqDiff, Nat.reduceAdd, wz, hc])
      | (with_reducible refine (zero_ok).use_pure ?_; simp only [wk, wt, wl, ↓reduceIte, Nat.reduceEqDiff, Nat.reduceAdd, wz])
      | (with_reducible refine (wide_ok).use_pure ?_; simp only [wk, wt, wl, ↓reduceIte, Nat.reduceEqDiff, Nat.reduceAdd, wz])
      | (with_reducible refine (ctl_ok).use_pure ?_; simp only [wk, wt, wl, ↓reduceIte, Nat.reduceEqDiff, Nat.reduceAdd, wz]))
  all_goals simp [widthZ, *]
end Go.Proofs.YthmpaddhmgnkbaaDoor.Am
end
section
/- What is shown of a rune: contracts of cell.Show and of the document's Show, by walks; two rows of runes compared. -/
set_option linter.unusedSimpArgs false
set_option linter.unusedVariables false
set_option maxHeartbeats 1000000
namespace Go.Proofs.YthmpaddhmgnkbaaDoor.Am
open Go Go.RowKit Go.Proofs.Tryd
def showL (r : Int) : List Int := if ctlB r = true then (if 64 ≤ r then [94, r - 64] else [94, r + 64]) else if (128 ≤ r ∧ r < 160) ∨ validB r = false then [65533] else [r]
theorem xor64 {r : Int} (h0 : 0 ≤ r) (h1 : r < 32) : bits .xor .i32 r 64 = r + 64 := by
  have : ∀ n : Fin 32, bits .xor .i32 (n.val : Int) 64 = (n.val : Int) + 64 := by decide
  have := this ⟨r.toNat, by omega⟩
  simp only [Int.toNat_of_nonneg h0] at this
  exact this
theorem xor64b : bits .xor .i32 127 64 = 63 := by decide
theorem showL_ctl {r : Int} (h0 : 0 ≤ r) (h1 : r < 32) : showL r = [94, r + 64] := by
  have : ctlB r = true := by simp [ctlB]; omega
  simp only [showL, this, if_true]; rw [if_neg (by omega)]
theorem showL_del : showL 127 = [94, 63] := by decide
theorem not_ctl {r : Int} (h1 : ¬ (0 ≤ r ∧ r < 32)) (h2 : ¬ r = 127) : ctlB r = false := by simp [ctlB]; omega
theorem showL_c1 {r : Int} (h0 : 128 ≤ r) (h1 : r < 160) : showL r = [65533] := by
  simp only [showL, not_ctl (r := r) (by omega) (by omega), Bool.false_eq_true, if_false]; rw [if_pos (.inl ⟨h0, h1⟩)]
theorem showL_bad {r : Int} (h1 : ¬ (0 ≤ r ∧ r < 32)) (h2 : ¬ r = 127) (hv : (!validB r) = true) : showL r = [65533] := by
  simp only [showL, not_ctl h1 h2, Bool.false_eq_true, if_false]; rw [if_pos (.inr (by simpa using hv))]
theorem showL_self {r : Int} (h1 : ¬ (0 ≤ r ∧ r < 32)) (h2 : ¬ r = 127) (h3 : ¬ (128 ≤ r ∧ r < 160)) (hv : (!validB r) = false) : showL r = [r] := by
  simp only [showL, not_ctl h1 h2, Bool.false_eq_true, if_false]; rw [if_neg (fun e => e.elim h3 (fun e => by simp [e] at hv))]
theorem show_ok {r : Int} {h : Heap} (h0 : isR r) : ACalls prog 70 #[.int .i32 r] h (fun v h' => v = .slice (some ⟨h.size, 0, none⟩) (showL r).length ((showL r).length + 1) ∧ h' = h.new 21 ((showL r).map (Value.int .i32))) := by
  refine acalls_of_W func70 rfl (by kernel_rfl) (by kernel_rfl) (by simp [ntmps70]) ?_
  simp only [wk, wt, wl, ↓reduceIte, Nat.reduceEqDiff, Nat.reduceAdd, wz]
  repeat' (first
      | (with_reducible refine condK_dec (fun hc => ?_) (fun hc => ?_) <;> simp only [wk, wt, wl, ↓reduceIte, Nat.reduceEqDiff, Nat.reduceAdd, wz, hc])
      | (with_reducible refine condK_split (fun hc => ?_) (fun hc => ?_) <;> simp only [wk, wt, wl, ↓reduceIte, Nat.reduceEqDiff, Nat.reduceAdd, wz, hc])
      | (with_reducible refine gateO_dec (fun hc => ?_) (fun hc => ?_) <;> simp only [wk, wt, wl, ↓reduceIte, Nat.reduceEqDiff, Nat.reduceAdd, wz, hc])
      | (with_reducible refine gateO_decF (fun hc => ?_) (fun hc => ?_) <;> simp only [wk, wt, wl, ↓reduceIte, Nat.reduceEqDiff, Nat.reduceAdd, wz, hc])
      | (with_reducible refine gateO_boolT (fun hc => ?_) (fun hc => ?_) <;> simp only [wk, wt, wl, ↓reduceIte, Nat.reduceEqDiff, Nat.reduceAdd, wz, hc])
      | (with_reducible refine gateO_boolF (fun hc => ?_) (fun hc => ?_) <;> simp only [wk, wt, wl, ↓reduceIte, Nat.reduceEqDiff, Nat.reduceAdd, wz, hc])
      | (with_reducible refine (valid_ok h0).use_pure ?_; simp only [wk, wt, wl, ↓reduceIte, Nat.reduceEqDiff, Nat.reduceAdd, wz]))
  all_goals first
    | (rw [showL_del, xor64b]; exact ⟨rfl, rfl⟩)
    | (rw [showL_ctl (by omega) (by omega), xor64 (by omega) (by omega)]; exact ⟨rfl, rfl⟩)
    | (rw [showL_c1 (by omega) (by omega)]; exact ⟨rfl, rfl⟩)
    | (rw [showL_bad (by omega) (by omega) (by assumption)]; exact ⟨rfl, rfl⟩)
    | (rw [showL_self (by omega) (by omega) (by omega) (by assumption)]; exact ⟨rfl, rfl⟩)
theorem refShow_ok {r : Int} {h : Heap} (h0 : isR r) : ACalls prog 41 #[.int .i32 r] h (fun v h' => v = .slice (some ⟨h.size, 0, none⟩) (showL r).length ((showL r).length + 1) ∧ h' = h.new 21 ((showL r).map (Value.int .i32))) := by
  refine acalls_of_W func41 rfl (by kernel_rfl) (by kernel_rfl) (by simp [ntmps41]) ?_
  simp only [wk, wt, wl, ↓reduceIte, Nat.reduceEqDiff, Nat.reduceAdd, wz]
  repeat' (first
      | (with_reducible refine condK_dec (fun hc => ?_) (fun hc => ?_) <;> simp only [wk, wt, wl, ↓reduceIte, Nat.reduceEqDiff, Nat.reduceAdd, wz, hc])
      | (with_reducible refine condK_split (fun hc => ?_) (fun hc => ?_) <;> simp only [wk, wt, wl, ↓reduceIte, Nat.reduceEqDiff, Nat.reduceAdd, wz, hc])
      | (with_reducible refine gateO_dec (fun hc => ?_) (fun hc => ?_) <;> simp only [wk, wt, wl, ↓reduceIte, Nat.reduceEqDiff, Nat.reduceAdd, wz, hc])
      | (with_reducible refine gateO_decF (fun hc => ?_) (fun hc => ?_) <;> simp only [wk, wt, wl, ↓reduceIte, Nat.reduceEqDiff, Nat.reduceAdd, wz, hc])
      | (with_reducible refine gateO_boolT (fun hc => ?_) (fun hc => ?_) <;> simp only [wk, wt, wl, ↓reduceIte, Nat.reduceEqDiff, Nat.reduceAdd, wz, hc])
      | (with_reducible refine gateO_boolF (fun hc => ?_) (fun hc => ?_) <;> simp only [wk, wt, wl, ↓reduceIte, Nat.reduceEqDiff, Nat.reduceAdd, wz, hc])
      | (with_reducible refine (ctl_ok).use_pure ?_; simp only [wk, wt, wl, ↓reduceIte, Nat.reduceEqDiff, Nat.reduceAdd, wz])
      | (with_reducible refine (refValid_ok h0).use_pure ?_; simp only [wk, wt, wl, ↓reduceIte, Nat.reduceEqDiff, Nat.reduceAdd, wz]))
  all_goals first
    | (have hctl : (0 ≤ r ∧ r < 32) ∨ r = 127 := by
        have : ctlB r = true := by assumption
        simpa [ctlB] using this
       simp (disch := omega) only [IntWalk.i32_in]
       first
        | (obtain rfl : r = 127 := by omega
           rw [showL_del]; exact ⟨rfl, rfl⟩)
        | (rw [showL_ctl (by omega) (by omega)]; exact ⟨rfl, rfl⟩))
    | (have hctl : ¬ ((0 ≤ r ∧ r < 32) ∨ r = 127) := by
        have : ctlB r = false := by assumption
        simpa only [ctlB, decide_eq_false_iff_not] using this
       first
        | (rw [showL_c1 (by omega) (by omega)]; exact ⟨rfl, rfl⟩)
        | (rw [showL_bad (by omega) (by omega) (by assumption)]; exact ⟨rfl, rfl⟩)
        | (rw [showL_self (by omega) (by omega) (by omega) (by assumption)]; exact ⟨rfl, rfl⟩))
end Go.Proofs.YthmpaddhmgnkbaaDoor.Am
end
section
/- How wide a rune is: the contract of cell.Width, by a walk over its search in the table of ranges. -/
set_option linter.unusedSimpArgs false
set_option linter.unusedVariables false
set_option maxHeartbeats 1000000
namespace Go.Proofs.YthmpaddhmgnkbaaDoor.Am
open Go Go.RowKit Go.Proofs.Tryd
def rgs : List (Int × Int × Int) := [(0, 31, 2), (127, 127, 2), (768, 879, 0), (4352, 4447, 2), (8203, 8207, 0), (8400, 8447, 0), (11904, 12350, 2), (12353, 19903, 2), (19968, 42191, 2), (44032, 55203, 2), (63744, 64255, 2), (65024, 65039, 0), (65072, 65135, 2), (65280, 65376, 2), (65504, 65510, 2), (127744, 128591, 2), (129280, 129535, 2), (131072, 262141, 2)]
def rgsV : List Value := rgs.flatMap fun x => [.int .i32 x.1, .int .i32 x.2.1, .int .i32 x.2.2]
def rlo (m : Nat) : Int := (rgs.getD m (0, 0, 0)).1
def rhi (m : Nat) : Int := (rgs.getD m (0, 0, 0)).2.1
def rwd (m : Nat) : Int := (rgs.getD m (0, 0, 0)).2.2
/-- The package's table stands in memory as the program's text lays it. -/
def Gl (h : Heap) : Prop := ∃ k v, h.get 0 = some k ∧ 0 < h.size ∧ k.live = true ∧ k.cells = [v] ∧ Rd prog h 3 v 18 rgsV
theorem Gl.keeps {h h' : Heap} (G : Gl h) (K : Keeps h h') : Gl h' := by
  obtain ⟨k, v, h1, h2, h3, h4, h5⟩ := G
  exact ⟨k, v, (K.at h2).trans h1, Nat.lt_of_lt_of_le h2 (Ch.le K), h3, h4, h5.keeps K⟩
theorem rgsV_at : ∀ m : Fin 18, rgsV[m.val * 3 + 0]? = some (.int .i32 (rlo m)) ∧ rgsV[m.val * 3 + 1]? = some (.int .i32 (rhi m)) ∧ rgsV[m.val * 3 + 2]? = some (.int .i32 (rwd m)) := by
  intro m
  have : ∀ n, n < 18 → rgsV[n * 3 + 0]? = some (.int .i32 (rlo n)) ∧ rgsV[n * 3 + 1]? = some (.int .i32 (rhi n)) ∧ rgsV[n * 3 + 2]? = some (.int .i32 (rwd n)) := by
    intro n hn
    iterate 18 (cases n with | zero => exact ⟨rfl, rfl, rfl⟩ | succ n => ?_)
    omega
  exact this m.val m.isLt
theorem rgs_sorted : ∀ i j : Fin 18, i.val < j.val → rhi i < rlo j ∧ rlo i ≤ rlo j ∧ rhi i ≤ rhi j := by decide
theorem rgs_range : ∀ i : Fin 18, rlo i ≤ rhi i ∧ 0 ≤ rwd i ∧ rwd i ≤ 2 := by decide
theorem width_in {r : Int} {m : Nat} (hm : m < 18) (h1 : rlo m ≤ r) (h2 : r ≤ rhi m) : widthZ r = rwd m := by
  have key : ∀ n, n < 18 → rlo n ≤ r → r ≤ rhi n → widthZ r = rwd n := by
    intro n hn g1 g2
    iterate 18 (cases n with | zero => (simp only [rlo, rhi, rwd, rgs, List.getD_cons_zero, List.getD_cons_succ] at g1 g2 ⊢; simp only [widthZ, zeroB, wideB, ctlB, decide_eq_true_eq]; first | (rw [if_pos (by omega)]; done) | (rw [if_neg (by omega), if_pos (by omega)]; done)) | succ n => ?_)
    omega
  exact key m hm h1 h2
theorem width_out {r : Int} (h : ∀ m, m < 18 → r < rlo m ∨ rhi m < r) : widthZ r = 1 := by
  have h0 := h 0 (by omega); have h1 := h 1 (by omega); have h2 := h 2 (by omega); have h3 := h 3 (by omega); have h4 := h 4 (by omega); have h5 := h 5 (by omega)
  have h6 := h 6 (by omega); have h7 := h 7 (by omega); have h8 := h 8 (by omega); have h9 := h 9 (by omega); have h10 := h 10 (by omega); have h11 := h 11 (by omega)
  have h12 := h 12 (by omega); have h13 := h 13 (by omega); have h14 := h 14 (by omega); have h15 := h 15 (by omega); have h16 := h 16 (by omega); have h17 := h 17 (by omega)
  clear h
  simp only [rlo, rhi, rgs, List.getD_cons_zero, List.getD_cons_succ] at *
  simp only [widthZ, zeroB, wideB, ctlB, decide_eq_true_eq]
  rw [if_neg (by omega), if_neg (by omega)]
theorem width_ok {r : Int} {h : Heap} (h0 : isR r) (G : Gl h) : ACalls prog 37 #[.int .i32 r] h (fun v h' => v = .int .i64 (widthZ r) ∧ h' = h) := by
  obtain ⟨k, g, g1, g2, g3, g4, g5⟩ := G
  have GL : aload prog h 83 ⟨0, 0, none⟩ = some g := by simp [aload, g1, g3, g4, underlying83, isAggD]
  have AT : ∀ m : Nat, m < 18 → aload prog h 21 ⟨(eltA g 3 m).block, (eltA g 3 m).off + 0, none⟩ = some (.int .i32 (rlo m)) ∧ aload prog h 21 ⟨(eltA g 3 m).block, (eltA g 3 m).off + 1, none⟩ = some (.int .i32 (rhi m)) ∧ aload prog h 21 ⟨(eltA g 3 m).block, (eltA g 3 m).off + 2, none⟩ = some (.int .i32 (rwd m)) := fun m hm => by
    have := rgsV_at ⟨m, hm⟩
    exact ⟨(g5.at underlying21 rfl hm (by omega)).trans this.1, (g5.at underlying21 rfl hm (by omega)).trans this.2.1, (g5.at underlying21 rfl hm (by omega)).trans this.2.2⟩
  refine acalls_of_W func37 rfl (by kernel_rfl) (by kernel_rfl) (by simp [ntmps37]) ?_
  simp only [wk, wt, wl, ↓reduceIte, Nat.reduceEqDiff, Nat.reduceAdd, wz]
  refine adraw_order [(0, false), (1, false), (2, false), (3, false)] mixed (by kernel_rfl) (by kernel_rfl) (by kernel_rfl) (by with_reducible repeat (first | exact PF_retK | refine PF_thenK ?_ | refine PF_blockK ?_)) ?_
  simp only [wk, wt, wl, ↓reduceIte, Nat.reduceEqDiff, Nat.reduceAdd, wz, GL, Rd.len g5 underlying83]
  refine W_loop (fun tm h' => h' = h ∧ tm 0 = .int .i32 r ∧ ∃ lo hi : Int, tm 3 = .int .i64 lo ∧ tm 4 = .int .i64 hi ∧ 0 ≤ lo ∧ lo ≤ hi ∧ hi ≤ 18 ∧ (∀ j : Nat, (j : Int) < lo → rhi j < r) ∧ (∀ j : Nat, hi ≤ j → j < 18 → r < rlo j)) (fun tm _ => (intOf (tm 4) - intOf (tm 3)).toNat) ⟨rfl, (by first | rfl | (simp only [wk, wt, wl, ↓reduceIte, Nat.reduceEqDiff, Nat.reduceAdd, wz]; done) | (simp only [wk, wt, wl, ↓reduceIte, Nat.reduceEqDiff, Nat.reduceAdd, wz]; rfl)), 0, 18, (by first | rfl | (simp only [wk, wt, wl, ↓reduceIte, Nat.reduceEqDiff, Nat.reduceAdd, wz]; done) | (simp only [wk, wt, wl, ↓reduceIte, Nat.reduceEqDiff, Nat.reduceAdd, wz]; rfl)), (by first | rfl | (simp only [wk, wt, wl, ↓reduceIte, Nat.reduceEqDiff, Nat.reduceAdd, wz]; done) | (simp only [wk, wt, wl, ↓reduceIte, Nat.reduceEqDiff, Nat.reduceAdd, wz]; rfl)), by omega, by omega, by omega, fun j hj => by omega, fun j hj hk => by omega⟩ ?_
  rintro tm h' ⟨rfl, t0, lo, hi, t3, t4, b0, b1, b2, i1, i2⟩
  simp only [wk, wt, wl, ↓reduceIte, Nat.reduceEqDiff, Nat.reduceAdd, wz, t0, t3, t4]
  refine condK_dec (fun hc => ?_) (fun hc => ?_)
  · obtain ⟨m, hm⟩ : ∃ m : Nat, (lo + hi) / 2 = m := ⟨((lo + hi) / 2).toNat, by omega⟩
    have hm18 : m < 18 := by omega
    obtain ⟨A0, A1, A2⟩ := AT m hm18
    simp (disch := omega) only [wk, wt, wl, ↓reduceIte, Nat.reduceEqDiff, Nat.reduceAdd, wz, t0, t3, t4, abin_quo (P := prog) (y := 2) (by decide), IntWalk.i64_in, Int.tdiv_eq_ediv_of_nonneg]
    simp only [hm]
    simp (disch := omega) only [wk, wt, wl, ↓reduceIte, Nat.reduceEqDiff, Nat.reduceAdd, wz, GL, A0, A1, A2, Rd.index g5 underlying83 asz84 (q := .i64) (i := (m : Int)) (by omega) (by omega), arr_index underlying84 asz21, Int.reduceToNat]
    have srt : ∀ i j : Nat, i < 18 → j < 18 → i < j → rhi i < rlo j ∧ rlo i ≤ rlo j ∧ rhi i ≤ rhi j := fun i j hi hj hij => rgs_sorted ⟨i, hi⟩ ⟨j, hj⟩ hij
    refine condK_dec (fun hd => ?_) (fun hd => ?_)
    · simp only [wk, wt, wl, ↓reduceIte, Nat.reduceEqDiff, Nat.reduceAdd, wz, intOf_int]
      refine ⟨⟨t0, lo, m, t3, rfl, b0, by omega, by omega, i1, fun j hj hk => ?_⟩, by rw [t3]; simp only [intOf_int]; omega⟩
      by_cases e : j = m
      · subst e; exact hd
      · have := (srt m j (by omega) hk (by omega)).2.1; omega
    · simp (disch := omega) only [wk, wt, wl, ↓reduceIte, Nat.reduceEqDiff, Nat.reduceAdd, wz, t0, t3, t4, GL, A0, A1, A2, Rd.index g5 underlying83 asz84 (q := .i64) (i := (m : Int)) (by omega) (by omega), arr_index underlying84 asz21, Int.reduceToNat]
      refine condK_dec (fun he => ?_) (fun he => ?_)
      · simp (disch := omega) only [wk, wt, wl, ↓reduceIte, Nat.reduceEqDiff, Nat.reduceAdd, wz, intOf_int, IntWalk.i64_in]
        refine ⟨⟨t0, m + 1, hi, rfl, t4, by omega, by omega, by omega, fun j hj => ?_, i2⟩, by rw [t4]; simp only [intOf_int]; omega⟩
        by_cases e : j = m
        · subst e; exact he
        · have := (srt j m (by omega) (by omega) (by omega)).2.2; omega
      · have hr := rgs_range ⟨m, hm18⟩
        simp only at hr
        simp (disch := omega) only [wk, wt, wl, ↓reduceIte, Nat.reduceEqDiff, Nat.reduceAdd, wz, t0, t3, t4, GL, A0, A1, A2, Rd.index g5 underlying83 asz84 (q := .i64) (i := (m : Int)) (by omega) (by omega), arr_index underlying84 asz21, Int.reduceToNat, aconv, IntWalk.i64_in]
        rw [width_in hm18 (by omega) (by omega)]
        exact ⟨rfl, trivial⟩
  · simp only [wk, wt, wl, ↓reduceIte, Nat.reduceEqDiff, Nat.reduceAdd, wz]
    rw [width_out fun m hm => ?_]
    · exact ⟨rfl, trivial⟩
    · by_cases e : (m : Int) < lo
      · exact .inr (i1 m e)
      · exact .inl (i2 m (by omega) hm)
end Go.Proofs.YthmpaddhmgnkbaaDoor.Am
end
section
/- Bytes and runes in plain terms: which bytes a rune has, with which rune bytes begin; no program in sight. -/
set_option linter.unusedSimpArgs false
set_option linter.unusedVariables false
set_option maxRecDepth 20000
set_option maxHeartbeats 2000000
namespace Go.Proofs.YthmpaddhmgnkbaaDoor.Am
open Go Go.RowKit Go.Proofs.Tryd
def isB (x : Int) : Prop := 0 ≤ x ∧ x ≤ 255
def fixR (r : Int) : Int := if validB r = true then r else 65533
def encV (n : Int) : List Int := if n < 128 then [n] else if n < 2048 then [192 + n / 64, 128 + n % 64] else if n < 65536 then [224 + n / 4096, 128 + n / 64 % 64, 128 + n % 64] else [240 + n / 262144, 128 + n / 4096 % 64, 128 + n / 64 % 64, 128 + n % 64]
def encR (r : Int) : List Int := encV (fixR r)
def leadN (c : Int) : Nat := if c < 128 then 1 else if c < 194 ∨ 244 < c then 0 else if c < 224 then 2 else if c < 240 then 3 else 4
def leadV (c : Int) : Int := if c < 128 then c else if c < 194 ∨ 244 < c then 0 else if c < 224 then c % 32 else if c < 240 then c % 16 else c % 8
def leadLo (c : Int) : Int := if c = 224 then 160 else if c = 240 then 144 else 128
def leadHi (c : Int) : Int := if c = 237 then 159 else if c = 244 then 143 else 191
def goZ (n : Nat) : Nat → Int → Int → Int → List Int → Option (Int × Nat)
  | 0, v, _, _, _ => some (v, n)
  | _ + 1, _, _, _, [] => none
  | k + 1, v, lo, hi, x :: t => if x < lo ∨ hi < x then some (65533, 1) else goZ n k (v * 64 + x % 64) 128 191 t
def nextZ : List Int → Option (Int × Nat)
  | [] => none
  | c :: t => if leadN c = 0 then some (65533, 1) else goZ (leadN c) (leadN c - 1) (leadV c) (leadLo c) (leadHi c) t
/-- A scalar with whose bytes the row begins. -/
def wholeZ (b : List Int) : Option (Int × Nat) :=
  match nextZ b with
  | some p => if p = (65533, 1) then none else some p
  | none => none
theorem fixR_valid {r : Int} : validB (fixR r) = true := by
  unfold fixR; split
  · assumption
  · decide
theorem leadN_le {c : Int} : leadN c ≤ 4 := by
  unfold leadN; repeat' split
  all_goals omega
theorem lead_cases (c : Int) (h0 : 0 ≤ c) (h1 : c ≤ 255) : (leadN c = 0 ∧ 128 ≤ c ∧ (c < 194 ∨ 244 < c)) ∨ (leadN c = 1 ∧ c < 128 ∧ leadV c = c) ∨ (leadN c = 2 ∧ 194 ≤ c ∧ c < 224 ∧ leadV c = c % 32 ∧ leadLo c = 128 ∧ leadHi c = 191) ∨
    (leadN c = 3 ∧ 224 ≤ c ∧ c < 240 ∧ leadV c = c % 16 ∧ ((c = 224 ∧ leadLo c = 160 ∧ leadHi c = 191) ∨ (c = 237 ∧ leadLo c = 128 ∧ leadHi c = 159) ∨ (c ≠ 224 ∧ c ≠ 237 ∧ leadLo c = 128 ∧ leadHi c = 191))) ∨
    (leadN c = 4 ∧ 240 ≤ c ∧ c ≤ 244 ∧ leadV c = c % 8 ∧ ((c = 240 ∧ leadLo c = 144 ∧ leadHi c = 191) ∨ (c = 244 ∧ leadLo c = 128 ∧ leadHi c = 143) ∨ (c ≠ 240 ∧ c ≠ 244 ∧ leadLo c = 128 ∧ leadHi c = 191))) := by
  unfold leadN leadV leadLo leadHi
  repeat' split
  all_goals omega
theorem lead_lo {c : Int} : (leadLo c = 128 ∨ leadLo c = 144 ∨ leadLo c = 160) ∧ leadLo c ≤ leadHi c ∧ leadHi c ≤ 191 ∧ 128 ≤ leadHi c := by
  unfold leadLo leadHi
  repeat' split
  all_goals omega
theorem goZ_le {n k : Nat} : ∀ {v lo hi : Int} {l : List Int} {p : Int × Nat}, goZ n k v lo hi l = some p → p = (65533, 1) ∨ (p.2 = n ∧ k ≤ l.length) := by
  induction k with
  | zero => intro v lo hi l p h; simp only [goZ, Option.some.injEq] at h; subst h; exact .inr ⟨rfl, Nat.zero_le _⟩
  | succ k ih =>
    intro v lo hi l p h
    cases l with
    | nil => simp [goZ] at h
    | cons x t =>
      simp only [goZ] at h
      split at h
      · simp only [Option.some.injEq] at h; exact .inl h.symm
      · exact (ih h).imp id fun e => ⟨e.1, by simp only [List.length_cons]; omega⟩
theorem goZ_app {n k : Nat} : ∀ {v lo hi : Int} {l t : List Int} {p : Int × Nat}, goZ n k v lo hi l = some p → goZ n k v lo hi (l ++ t) = some p := by
  induction k with
  | zero => intro v lo hi l t p h; simpa [goZ] using h
  | succ k ih =>
    intro v lo hi l t p h
    cases l with
    | nil => simp [goZ] at h
    | cons x l =>
      simp only [goZ, List.cons_append] at h ⊢
      split
      · rename_i hc; rw [if_pos hc] at h; exact h
      · rename_i hc; rw [if_neg hc] at h; exact ih h
theorem goZ_none {n k : Nat} : ∀ {v lo hi : Int} {l : List Int}, goZ n k v lo hi l = none → l.length < k ∧ ∀ x, x ∈ l.drop 1 → 128 ≤ x ∧ x ≤ 191 := by
  induction k with
  | zero => intro v lo hi l h; simp [goZ] at h
  | succ k ih =>
    intro v lo hi l h
    cases l with
    | nil => exact ⟨by simp, by simp⟩
    | cons x l =>
      simp only [goZ] at h
      split at h
      · cases h
      · obtain ⟨h1, h2⟩ := ih h
        refine ⟨by simp only [List.length_cons]; omega, fun y hy => ?_⟩
        cases l with
        | nil => simp at hy
        | cons z l =>
          rcases List.mem_cons.1 hy with rfl | hy
          · cases k with
            | zero => simp [goZ] at h
            | succ k =>
              simp only [goZ] at h
              split at h
              · cases h
              · omega
          · exact h2 y hy
theorem nextZ_app {b t : List Int} {p : Int × Nat} (h : nextZ b = some p) : nextZ (b ++ t) = some p := by
  cases b with
  | nil => simp [nextZ] at h
  | cons c b =>
    simp only [nextZ, List.cons_append] at h ⊢
    split
    · rename_i hc; rw [if_pos hc] at h; exact h
    · rename_i hc; rw [if_neg hc] at h; exact goZ_app h
theorem nextZ_le {b : List Int} {r : Int} {n : Nat} (h : nextZ b = some (r, n)) : 1 ≤ n ∧ n ≤ b.length ∧ n ≤ 4 := by
  cases b with
  | nil => simp [nextZ] at h
  | cons c b =>
    simp only [nextZ] at h
    have := leadN_le (c := c)
    split at h
    · simp only [Option.some.injEq, Prod.mk.injEq] at h; simp only [List.length_cons]; omega
    · rcases goZ_le h with e | ⟨e1, e2⟩
      · simp only [Prod.mk.injEq] at e; simp only [List.length_cons]; omega
      · simp only at e1; simp only [List.length_cons]; omega
theorem nextZ_none {b : List Int} (h : nextZ b = none) : b.length ≤ 3 ∧ ∀ x, x ∈ b.drop 1 → 128 ≤ x ∧ x ≤ 191 := by
  cases b with
  | nil => exact ⟨by simp, by simp⟩
  | cons c b =>
    simp only [nextZ] at h
    have hl := leadN_le (c := c)
    split at h
    · cases h
    · obtain ⟨h1, h2⟩ := goZ_none h
      refine ⟨by simp only [List.length_cons]; omega, fun x hx => ?_⟩
      simp only [List.drop_succ_cons, List.drop_zero] at hx
      cases b with
      | nil => simp at hx
      | cons y b =>
        rcases List.mem_cons.1 hx with rfl | hx
        · have := lead_lo (c := c)
          cases hk : leadN c - 1 with
          | zero => rw [hk] at h; simp [goZ] at h
          | succ k =>
            rw [hk] at h
            simp only [goZ] at h
            split at h
            · cases h
            · omega
        · exact h2 x hx
/-- A rune's bytes are read as it. -/
theorem nextZ_enc {r : Int} (hr : validB r = true) (t : List Int) : nextZ (encV r ++ t) = some (r, (encV r).length) := by
  simp only [validB, decide_eq_true_eq] at hr
  unfold encV
  split
  · have : leadN r = 1 := by unfold leadN; rw [if_pos (by omega)]
    have hv : leadV r = r := by unfold leadV; rw [if_pos (by omega)]
    simp [nextZ, this, hv, goZ]
  · split
    · rcases lead_cases (192 + r / 64) (by omega) (by omega) with h | h | h | h | h
      · omega
      · omega
      · obtain ⟨h1, _, _, h2, h3, h4⟩ := h
        simp only [nextZ, List.cons_append, List.nil_append, h1, h2, h3, h4]
        simp only [goZ, Nat.reduceEqDiff, if_false]
        rw [if_neg (by omega)]
        simp only [Option.some.injEq, Prod.mk.injEq, List.length_cons, List.length_nil, and_true]; omega
      · omega
      · omega
    · split
      · rcases lead_cases (224 + r / 4096) (by omega) (by omega) with h | h | h | h | h
        · omega
        · omega
        · omega
        · obtain ⟨h1, _, _, h2, h3⟩ := h
          simp only [nextZ, List.cons_append, List.nil_append, h1, h2]
          simp only [goZ, Nat.reduceEqDiff, if_false]
          rw [if_neg (by omega), if_neg (by omega)]
          simp only [Option.some.injEq, Prod.mk.injEq, List.length_cons, List.length_nil, and_true]; omega
        · omega
      · rcases lead_cases (240 + r / 262144) (by omega) (by omega) with h | h | h | h | h
        · omega
        · omega
        · omega
        · omega
        · obtain ⟨h1, _, _, h2, h3⟩ := h
          simp only [nextZ, List.cons_append, List.nil_append, h1, h2]
          simp only [goZ, Nat.reduceEqDiff, if_false]
          rw [if_neg (by omega), if_neg (by omega), if_neg (by omega)]
          simp only [Option.some.injEq, Prod.mk.injEq, List.length_cons, List.length_nil, and_true]; omega
/-- What is read are a rune's bytes, or one that is none. -/
theorem nextZ_exact {b : List Int} {r : Int} {n : Nat} (hb : ∀ x, x ∈ b → isB x) (h : nextZ b = some (r, n)) (hg : (r, n) ≠ (65533, 1)) : validB r = true ∧ ∃ t, b = encV r ++ t ∧ n = (encV r).length := by
  cases b with
  | nil => simp [nextZ] at h
  | cons c b =>
    have hc := hb c (by simp)
    simp only [nextZ] at h
    rcases lead_cases c hc.1 hc.2 with g | g | g | g | g
    · rw [if_pos g.1] at h; simp only [Option.some.injEq] at h; exact absurd h.symm hg
    · obtain ⟨g1, g2, g3⟩ := g
      simp only [g1, g3, goZ, Nat.reduceEqDiff, if_false, Option.some.injEq, Prod.mk.injEq] at h
      obtain ⟨rfl, rfl⟩ := h
      unfold isB at hc
      refine ⟨by simp only [validB, decide_eq_true_eq]; omega, b, ?_, ?_⟩ <;> · unfold encV; rw [if_pos g2]; rfl
    · obtain ⟨g1, g2, g3, g4, g5, g6⟩ := g
      simp only [g1, g4, g5, g6, Nat.reduceEqDiff, if_false, Nat.reduceSub] at h
      cases b with
      | nil => simp [goZ] at h
      | cons x b =>
        have hx := hb x (by simp)
        unfold isB at hc hx
        simp only [goZ] at h
        split at h
        · simp only [Option.some.injEq] at h; exact absurd h.symm hg
        · simp only [Option.some.injEq, Prod.mk.injEq] at h
          obtain ⟨rfl, rfl⟩ := h
          have e : encV (c % 32 * 64 + x % 64) = [c, x] := by
            unfold encV; rw [if_neg (by omega), if_pos (by omega)]
            simp only [List.cons.injEq, and_true]; omega
          exact ⟨by simp only [validB, decide_eq_true_eq]; omega, b, by rw [e]; rfl, by rw [e]; rfl⟩
    · obtain ⟨g1, g2, g3, g4, g5⟩ := g
      simp only [g1, g4, Nat.reduceEqDiff, if_false, Nat.reduceSub] at h
      cases b with
      | nil => simp [goZ] at h
      | cons x b =>
        have hx := hb x (by simp)
        simp only [goZ] at h
        split at h
        · simp only [Option.some.injEq] at h; exact absurd h.symm hg
        · rename_i hx2
          cases b with
          | nil => simp [goZ] at h
          | cons y b =>
            have hy := hb y (by simp)
            unfold isB at hc hx hy
            simp only [goZ] at h
            split at h
            · simp only [Option.some.injEq] at h; exact absurd h.symm hg
            · simp only [Option.some.injEq, Prod.mk.injEq] at h
              obtain ⟨rfl, rfl⟩ := h
              have e : encV ((c % 16 * 64 + x % 64) * 64 + y % 64) = [c, x, y] := by
                unfold encV; rw [if_neg (by omega), if_neg (by omega), if_pos (by omega)]
                simp only [List.cons.injEq, and_true]; omega
              exact ⟨by simp only [validB, decide_eq_true_eq]; omega, b, by rw [e]; rfl, by rw [e]; rfl⟩
    · obtain ⟨g1, g2, g3, g4, g5⟩ := g
      simp only [g1, g4, Nat.reduceEqDiff, if_false, Nat.reduceSub] at h
      cases b with
      | nil => simp [goZ] at h
      | cons x b =>
        have hx := hb x (by simp)
        simp only [goZ] at h
        split at h
        · simp only [Option.some.injEq] at h; exact absurd h.symm hg
        · rename_i hx2
          cases b with
          | nil => simp [goZ] at h
          | cons y b =>
            have hy := hb y (by simp)
            simp only [goZ] at h
            split at h
            · simp only [Option.some.injEq] at h; exact absurd h.symm hg
            · cases b with
              | nil => simp [goZ] at h
              | cons z b =>
                have hz := hb z (by simp)
                unfold isB at hc hx hy hz
                simp only [goZ] at h
                split at h
                · simp only [Option.some.injEq] at h; exact absurd h.symm hg
                · simp only [Option.some.injEq, Prod.mk.injEq] at h
                  obtain ⟨rfl, rfl⟩ := h
                  have e : encV (((c % 8 * 64 + x % 64) * 64 + y % 64) * 64 + z % 64) = [c, x, y, z] := by
                    unfold encV; rw [if_neg (by omega), if_neg (by omega), if_neg (by omega)]
                    simp only [List.cons.injEq, and_true]; omega
                  exact ⟨by simp only [validB, decide_eq_true_eq]; omega, b, by rw [e]; rfl, by rw [e]; rfl⟩
/-- The ends of what may stand behind bytes tell whether more may make a scalar. -/
def endsT : List Int := [128, 143, 144, 159, 160, 191]
theorem goZ_ext {n k : Nat} : ∀ {v lo hi : Int} {l : List Int}, goZ n k v lo hi l = none → (lo = 128 ∨ lo = 144 ∨ lo = 160) → lo ≤ hi → ∃ x, x ∈ endsT ∧ ((k = l.length + 1 ∧ ∃ r, goZ n k v lo hi (l ++ [x]) = some (r, n)) ∨ (l.length + 1 < k ∧ goZ n k v lo hi (l ++ [x]) = none)) := by
  induction k with
  | zero => intro v lo hi l h; simp [goZ] at h
  | succ k ih =>
    intro v lo hi l h hlo hhi
    cases l with
    | nil =>
      refine ⟨lo, by rcases hlo with rfl | rfl | rfl <;> decide, ?_⟩
      simp only [List.nil_append, goZ]
      rw [if_neg (by omega)]
      cases k with
      | zero => exact .inl ⟨rfl, _, rfl⟩
      | succ k => exact .inr ⟨by simp, by simp [goZ]⟩
    | cons y l =>
      simp only [goZ] at h
      split at h
      · cases h
      · rename_i hy
        obtain ⟨x, hx, hh⟩ := ih h (.inl rfl) (by omega)
        refine ⟨x, hx, ?_⟩
        simp only [List.cons_append, goZ, List.length_cons]
        rw [if_neg hy]
        rcases hh with ⟨e, g⟩ | ⟨e, g⟩
        · exact .inl ⟨by omega, g⟩
        · exact .inr ⟨by omega, g⟩
def extB (b : List Int) (x : Int) : Prop := (∃ r, wholeZ (b ++ [x]) = some (r, b.length + 1)) ∨ (b.length + 1 < 4 ∧ nextZ (b ++ [x]) = none ∧ b ++ [x] ≠ [])
theorem ext_iff {b : List Int} : (∃ x, x ∈ endsT ∧ extB b x) ↔ (b ≠ [] ∧ nextZ b = none) := by
  constructor
  · rintro ⟨x, hx, h⟩
    cases hn : nextZ b with
    | some p =>
      obtain ⟨r, n⟩ := p
      have h1 := nextZ_app (t := [x]) hn
      have h2 := nextZ_le hn
      rcases h with ⟨r', h⟩ | ⟨_, h, _⟩
      · simp only [wholeZ, h1] at h
        split at h
        · cases h
        · simp only [Option.some.injEq, Prod.mk.injEq] at h; omega
      · rw [h1] at h; cases h
    | none =>
      refine ⟨?_, rfl⟩
      rintro rfl
      simp only [endsT, List.mem_cons, List.not_mem_nil, or_false] at hx
      rcases hx with rfl | rfl | rfl | rfl | rfl | rfl <;> simp [extB, wholeZ, nextZ, leadN] at h
  · rintro ⟨hne, hn⟩
    cases b with
    | nil => exact absurd rfl hne
    | cons c b =>
      have hl := lead_lo (c := c)
      simp only [nextZ] at hn
      split at hn
      · cases hn
      · rename_i h0
        have hle := leadN_le (c := c)
        obtain ⟨x, hx, hh⟩ := goZ_ext hn hl.1 hl.2.1
        refine ⟨x, hx, ?_⟩
        rcases hh with ⟨e, r, g⟩ | ⟨e, g⟩
        · refine .inl ⟨r, ?_⟩
          simp only [wholeZ, nextZ, List.cons_append, if_neg h0, g]
          rw [if_neg (by simp only [Prod.mk.injEq]; omega)]
          simp only [List.length_cons, Option.some.injEq, Prod.mk.injEq, true_and]; omega
        · refine .inr ⟨by simp only [List.length_cons]; omega, ?_, by simp⟩
          simp only [nextZ, List.cons_append, if_neg h0, g]
end Go.Proofs.YthmpaddhmgnkbaaDoor.Am
end
section
/- With which rune bytes begin, and how many bytes a rune has: contracts of utf.lead, utf.Next, utf.Len and of the document's One, by walks. -/
set_option linter.unusedSimpArgs false
set_option linter.unusedVariables false
set_option maxRecDepth 20000
set_option maxHeartbeats 4000000
namespace Go.Proofs.YthmpaddhmgnkbaaDoor.Am
open Go Go.RowKit Go.Proofs.Tryd
theorem isB_getD {b : List Int} (hb : ∀ x, x ∈ b → isB x) (i : Nat) : isB (b.getD i 0) := by
  rw [List.getD_eq_getElem?_getD]
  cases h : b[i]? with
  | none => exact ⟨by simp, by simp⟩
  | some x => exact hb x (List.mem_of_getElem? h)
def nextT (b : List Int) : Value :=
  match nextZ b with
  | none => .tuple #[.int .i32 0, .int .i64 0, .bool true]
  | some p => .tuple #[.int .i32 p.1, .int .i64 p.2, .bool false]
def lenZ (r : Int) : Nat := (encR r).length
theorem lenZ_bad {r : Int} (h : validB r = false) : lenZ r = 3 := by simp [lenZ, encR, fixR, h, encV]
theorem len_ok {r : Int} {h : Heap} (h0 : isR r) : ACalls prog 74 #[.int .i32 r] h (fun v h' => v = .int .i64 (lenZ r) ∧ h' = h) := by
  refine acalls_of_W func74 rfl (by kernel_rfl) (by kernel_rfl) (by simp [ntmps74]) ?_
  simp only [wk, wt, wl, ↓reduceIte, Nat.reduceEqDiff, Nat.reduceAdd, wz]
  refine (valid_ok h0).use_pure ?_
  cases hv : validB r with
  | false =>
    simp only [wk, wt, wl, ↓reduceIte, Nat.reduceEqDiff, Nat.reduceAdd, wz, Bool.not_false]
    rw [lenZ_bad hv]; exact ⟨rfl, trivial⟩
  | true =>
    have hf : fixR r = r := by simp [fixR, hv]
    simp only [wk, wt, wl, ↓reduceIte, Nat.reduceEqDiff, Nat.reduceAdd, wz, Bool.not_true]
    repeat' (first
      | (with_reducible refine condK_dec (fun hc => ?_) (fun hc => ?_) <;> simp only [wk, wt, wl, ↓reduceIte, Nat.reduceEqDiff, Nat.reduceAdd, wz, hc])
      | (with_reducible refine condK_split (fun hc => ?_) (fun hc => ?_) <;> simp only [wk, wt, wl, ↓reduceIte, Nat.reduceEqDiff, Nat.reduceAdd, wz, hc])
      | (with_reducible refine gateO_dec (fun hc => ?_) (fun hc => ?_) <;> simp only [wk, wt, wl, ↓reduceIte, Nat.reduceEqDiff, Nat.reduceAdd, wz, hc])
      | (with_reducible refine gateO_decF (fun hc => ?_) (fun hc => ?_) <;> simp only [wk, wt, wl, ↓reduceIte, Nat.reduceEqDiff, Nat.reduceAdd, wz, hc])
      | (with_reducible refine gateO_boolT (fun hc => ?_) (fun hc => ?_) <;> simp only [wk, wt, wl, ↓reduceIte, Nat.reduceEqDiff, Nat.reduceAdd, wz, hc])
      | (with_reducible refine gateO_boolF (fun hc => ?_) (fun hc => ?_) <;> simp only [wk, wt, wl, ↓reduceIte, Nat.reduceEqDiff, Nat.reduceAdd, wz, hc]))
    all_goals (simp (disch := omega) only [lenZ, encR, hf, encV, if_pos, if_neg]; first | done | rfl | exact ⟨rfl, trivial⟩)
def bI (l : List Int) : List Value := l.map (Value.int .u8)
end Go.Proofs.YthmpaddhmgnkbaaDoor.Am
end
section
/- The bytes of runes: contracts of utf.put, utf.Encode and of the document's One and Encode, by walks. -/
set_option linter.unusedSimpArgs false
set_option linter.unusedVariables false
set_option maxRecDepth 20000
set_option maxHeartbeats 4000000
namespace Go.Proofs.YthmpaddhmgnkbaaDoor.Am
open Go Go.RowKit Go.Proofs.Tryd
def tailB (x : Int) : Nat → List Int
  | 0 => []
  | k + 1 => (128 + x / 64 ^ k % 64) :: tailB x k
theorem encV_tail {x : Int} (h0 : 0 ≤ x) (h1 : x ≤ 1114111) : (x < 128 ∧ encV x = [x]) ∨ (128 ≤ x ∧ x < 2048 ∧ encV x = [192 + x / 64] ++ tailB x 1) ∨ (2048 ≤ x ∧ x < 65536 ∧ encV x = [224 + x / 4096] ++ tailB x 2) ∨ (65536 ≤ x ∧ encV x = [240 + x / 262144] ++ tailB x 3) := by
  unfold encV
  repeat' split
  · exact .inl ⟨by omega, rfl⟩
  · refine .inr (.inl ⟨by omega, by omega, ?_⟩); simp [tailB]
  · refine .inr (.inr (.inl ⟨by omega, by omega, ?_⟩)); simp [tailB]
  · refine .inr (.inr (.inr ⟨by omega, ?_⟩)); simp [tailB]
theorem encV_isB {x : Int} (h0 : 0 ≤ x) (h1 : x ≤ 1114111) : ∀ y, y ∈ encV x → isB y := by
  unfold encV isB
  intro y hy
  repeat' split at hy
  all_goals (simp only [List.mem_cons, List.not_mem_nil, or_false] at hy; omega)
theorem fixR_range {r : Int} : 0 ≤ fixR r ∧ fixR r ≤ 1114111 := by
  have := fixR_valid (r := r)
  simp only [validB, decide_eq_true_eq] at this
  omega
theorem encR_isB {r : Int} : ∀ y, y ∈ encR r → isB y := encV_isB fixR_range.1 fixR_range.2
theorem lenZ_range {r : Int} : 1 ≤ lenZ r ∧ lenZ r ≤ 4 := by
  have := encV_tail fixR_range.1 (fixR_range (r := r)).2
  unfold lenZ encR
  rcases this with h | h | h | h
  · rw [h.2]; simp
  · rw [h.2.2]; simp [tailB]
  · rw [h.2.2]; simp [tailB]
  · rw [h.2]; simp [tailB]
theorem shr0 {P : Program} {t : TypeId} {x : Int} (h : 0 ≤ x) : abin P .shr t (.int .i32 x) (.int .i64 0) = some (.int .i32 x) := by simp [abin, ashift]
theorem shr6 {P : Program} {t : TypeId} {x : Int} (h : 0 ≤ x) : abin P .shr t (.int .i32 x) (.int .i64 6) = some (.int .i32 (x / 64)) := by
  simp [abin, ashift, IntKind.bits, Int.fdiv_eq_ediv_of_nonneg]
theorem shr12 {P : Program} {t : TypeId} {x : Int} (h : 0 ≤ x) : abin P .shr t (.int .i32 x) (.int .i64 12) = some (.int .i32 (x / 4096)) := by
  simp [abin, ashift, IntKind.bits, Int.fdiv_eq_ediv_of_nonneg]
theorem shr18 {P : Program} {t : TypeId} {x : Int} (h : 0 ≤ x) : abin P .shr t (.int .i32 x) (.int .i64 18) = some (.int .i32 (x / 262144)) := by
  simp [abin, ashift, IntKind.bits, Int.fdiv_eq_ediv_of_nonneg]
theorem shl_lead {P : Program} {t : TypeId} : abin P .shl t (.int .u8 240) (.int .i64 0) = some (.int .u8 240) ∧ abin P .shl t (.int .u8 240) (.int .i64 1) = some (.int .u8 224) ∧ abin P .shl t (.int .u8 240) (.int .i64 2) = some (.int .u8 192) := by
  refine ⟨?_, ?_, ?_⟩ <;> simp [abin, ashift, IntKind.bits] <;> decide
theorem one_ok {r : Int} {h : Heap} (h0 : isR r) : ACalls prog 78 #[.int .i32 r] h (fun v h' => v = .slice (some ⟨h.size, 0, none⟩) (encR r).length ((encR r).length + 1) ∧ h' = h.new 5 (bI (encR r))) := by
  have hf := fixR_range (r := r)
  have key : ∀ x : Int, 0 ≤ x → x ≤ 1114111 → fixR r = x → (encR r = encV x) := fun x _ _ e => by rw [encR, e]
  refine acalls_of_W func78 rfl (by kernel_rfl) (by kernel_rfl) (by simp [ntmps78]) ?_
  simp only [wk, wt, wl, ↓reduceIte, Nat.reduceEqDiff, Nat.reduceAdd, wz]
  refine (refValid_ok h0).use_pure ?_
  have fin : ∀ {ys : List Int}, encV (fixR r) = ys → ∀ {n : Nat}, ys.length = n → (Value.slice (some ⟨h.size, 0, none⟩) n (n + 1) = .slice (some ⟨h.size, 0, none⟩) (encR r).length ((encR r).length + 1) ∧ h.new 5 (bI ys) = h.new 5 (bI (encR r))) := by
    intro ys e n hn
    have : encR r = ys := e
    rw [this, hn]; exact ⟨rfl, rfl⟩
  cases hv : validB r with
  | false =>
    have hx : fixR r = 65533 := by simp [fixR, hv]
    simp (disch := omega) only [wk, wt, wl, ↓reduceIte, Nat.reduceEqDiff, Nat.reduceAdd, wz, Bool.not_false, aconv, IntWalk.i64_in, decide_eq_true, decide_eq_false, abin_quo (P := prog), abin_rem (P := prog), IntWalk.i64_quo, IntWalk.rem_in, IntWalk.u8_in]
    exact fin (ys := [239, 191, 189]) (by rw [hx]; decide) rfl
  | true =>
    have hx : fixR r = r := by simp [fixR, hv]
    rw [hx] at hf fin
    obtain ⟨hf0, hf1⟩ := hf
    rcases (show r < 128 ∨ (128 ≤ r ∧ r < 2048) ∨ (2048 ≤ r ∧ r < 65536) ∨ 65536 ≤ r by omega) with hc | hc | hc | hc
    · simp (disch := omega) only [wk, wt, wl, ↓reduceIte, Nat.reduceEqDiff, Nat.reduceAdd, wz, Bool.not_true, aconv, IntWalk.i64_in, decide_eq_true, decide_eq_false, abin_quo (P := prog), abin_rem (P := prog), IntWalk.i64_quo, IntWalk.rem_in, IntWalk.u8_in]
      exact fin (ys := [r]) (by unfold encV; rw [if_pos hc]) rfl
    · simp (disch := omega) only [wk, wt, wl, ↓reduceIte, Nat.reduceEqDiff, Nat.reduceAdd, wz, Bool.not_true, aconv, IntWalk.i64_in, decide_eq_true, decide_eq_false, abin_quo (P := prog), abin_rem (P := prog), IntWalk.i64_quo, IntWalk.rem_in, IntWalk.u8_in]
      exact fin (ys := [192 + r / 64, 128 + r % 64]) (by unfold encV; rw [if_neg (by omega), if_pos hc.2]) rfl
    · simp (disch := omega) only [wk, wt, wl, ↓reduceIte, Nat.reduceEqDiff, Nat.reduceAdd, wz, Bool.not_true, aconv, IntWalk.i64_in, decide_eq_true, decide_eq_false, abin_quo (P := prog), abin_rem (P := prog), IntWalk.i64_quo, IntWalk.rem_in, IntWalk.u8_in]
      exact fin (ys := [224 + r / 4096, 128 + r / 64 % 64, 128 + r % 64]) (by unfold encV; rw [if_neg (by omega), if_neg (by omega), if_pos hc.2]) rfl
    · simp (disch := omega) only [wk, wt, wl, ↓reduceIte, Nat.reduceEqDiff, Nat.reduceAdd, wz, Bool.not_true, aconv, IntWalk.i64_in, decide_eq_true, decide_eq_false, abin_quo (P := prog), abin_rem (P := prog), IntWalk.i64_quo, IntWalk.rem_in, IntWalk.u8_in]
      exact fin (ys := [240 + r / 262144, 128 + r / 4096 % 64, 128 + r / 64 % 64, 128 + r % 64]) (by unfold encV; rw [if_neg (by omega), if_neg (by omega), if_neg (by omega)]) rfl
end Go.Proofs.YthmpaddhmgnkbaaDoor.Am
end
section
/- The bytes of runes, put one behind another: contracts of utf.put, utf.Encode and of the document's Encode, by walks. -/
set_option linter.unusedSimpArgs false
set_option linter.unusedVariables false
set_option maxRecDepth 20000
set_option maxHeartbeats 4000000
namespace Go.Proofs.YthmpaddhmgnkbaaDoor.Am
open Go Go.RowKit Go.Proofs.Tryd
theorem bI_append {a b : List Int} : bI (a ++ b) = bI a ++ bI b := by simp [bI]
theorem bI_len {a : List Int} : (bI a).length = a.length := by simp [bI]
theorem put_ok {v : Value} {b : List Int} {r : Int} {h : Heap} {B : Nat} (hB : B ≤ h.size) (O : Own prog B h 1 v b.length (bI b)) (h0 : isR r) (hl : b.length ≤ 1000000000) :
    ACalls prog 57 #[v, .int .i32 r] h (fun v' h' => Own prog B h' 1 v' (b ++ encR r).length (bI (b ++ encR r)) ∧ Ch (fun y => blkOf v = some y ∧ B ≤ y) h h' ∧ Reads h h' ∧ ∀ y, blkOf v' = some y → h.size ≤ y) := by
  refine acalls_of_W' func57 rfl (by kernel_rfl) (by kernel_rfl) (by simp [ntmps57]) ?_
  intro H
  simp only [wk, wt, wl, ↓reduceIte, Nat.reduceEqDiff, Nat.reduceAdd, wz]
  refine (len_ok h0).use_pure ?_
  simp only [wk, wt, wl, ↓reduceIte, Nat.reduceEqDiff, Nat.reduceAdd, wz]
  refine (valid_ok h0).use_pure ?_
  cases hv : validB r with
  | false =>
    have hx : fixR r = 65533 := by simp [fixR, hv]
    have hf0 : (0 : Int) ≤ 65533 := by decide
    have hc2 : encV 65533 = [224 + 65533 / 4096] ++ tailB 65533 2 := by decide
    simp only [wk, wt, wl, ↓reduceIte, Nat.reduceEqDiff, Nat.reduceAdd, wz, Bool.not_false]
    have hn : (lenZ r : Int) = 3 := by
      have : lenZ r = (encV 65533).length := by rw [lenZ, encR, hx]
      rw [this, hc2]; simp [tailB]
    have d31 : decide ((3 : Int) = 1) = false := by decide
    obtain ⟨v1, h1, e1, O1, C1, R1, ev1, _⟩ := O.append1 (P := prog) H hB underlying30 elem5 fits5 (by decide) (by decide) (xs := [.int .u8 (239)]) rfl (by omega)
    simp (disch := omega) only [wk, wt, wl, ↓reduceIte, Nat.reduceEqDiff, Nat.reduceAdd, wz, hn, d31, Int.reduceSub, Int.reduceMul, Int.reduceAdd, Int.reduceDiv, shl_lead, shr12 (P := prog) (x := 65533) (by decide), aconv, IntWalk.u8_in, u8_or224, IntWalk.i64_in]
    rw [e1]; clear e1
    simp (disch := omega) only [wk, wt, wl, ↓reduceIte, Nat.reduceEqDiff, Nat.reduceAdd, wz, hn, Int.reduceSub, IntWalk.i64_in]
    refine W_loop (fun tm h' => ∃ (j : Nat) (v1 : Value) (cur : List Int), tm 0 = v1 ∧ tm 1 = .int .i32 (65533) ∧ tm 7 = .int .i64 ((j : Int) - 1) ∧ j ≤ 3 ∧ cur.length + j ≤ b.length + 4 ∧ Own prog B h' 1 v1 cur.length (bI cur) ∧ Ch (fun y => blkOf v = some y ∧ B ≤ y) h h' ∧ Reads h h' ∧ (∀ y, blkOf v1 = some y → h.size ≤ y) ∧ cur ++ tailB (65533) j = b ++ encV (65533))
      (fun tm _ => (intOf (tm 7) + 1).toNat) ⟨2, v1, b ++ [239], (by first | rfl | (simp only [wk, wt, wl, ↓reduceIte, Nat.reduceEqDiff, Nat.reduceAdd, wz]; done) | (simp only [wk, wt, wl, ↓reduceIte, Nat.reduceEqDiff, Nat.reduceAdd, wz]; rfl)), (by first | rfl | (simp only [wk, wt, wl, ↓reduceIte, Nat.reduceEqDiff, Nat.reduceAdd, wz]; done) | (simp only [wk, wt, wl, ↓reduceIte, Nat.reduceEqDiff, Nat.reduceAdd, wz]; rfl)), (by first | rfl | (simp only [wk, wt, wl, ↓reduceIte, Nat.reduceEqDiff, Nat.reduceAdd, wz]; done) | (simp only [wk, wt, wl, ↓reduceIte, Nat.reduceEqDiff, Nat.reduceAdd, wz]; rfl)), by omega, by simp only [List.length_append, List.length_singleton]; omega, by simpa [bI] using O1, C1, R1, fun y hy => by rw [ev1] at hy; simp only [blkOf, Option.some.injEq] at hy; omega, by rw [hc2]; simp⟩ ?_
    clear O1 C1 R1 ev1
    rintro tm h' ⟨j, v1, cur, t0, t1, t7, hj, hcl, O1, C, R1, hb1, hcur⟩
    simp only [wk, wt, wl, ↓reduceIte, Nat.reduceEqDiff, Nat.reduceAdd, wz, t0, t1, t7]
    refine condK_dec (fun hd => ?_) (fun hd => ?_)
    · rcases (show j = 1 ∨ j = 2 ∨ j = 3 by omega) with rfl | rfl | rfl
      · replace t7 : tm 7 = .int .i64 0 := by rw [t7]; rfl
        have K0 := Ch.wf C
        obtain ⟨v2, h2, e2, O2, C2, R2, ev2, _⟩ := O1.append1 (P := prog) K0 (by have := Ch.le C; omega) underlying30 elem5 fits5 (by decide) (by decide) (xs := [.int .u8 (128 + (65533) % 256 % 64)]) rfl (by omega)
        simp (disch := omega) only [wk, wt, wl, ↓reduceIte, Nat.reduceEqDiff, Nat.reduceAdd, wz, t0, t1, t7, Int.reduceMul, shr0 (P := prog) (x := 65533) hf0, aconv, IntKind.wrap_u8, u8_and63, u8_or128, IntWalk.i64_in, decide_true]
        rw [e2]; clear e2
        simp (disch := omega) only [wk, wt, wl, ↓reduceIte, Nat.reduceEqDiff, Nat.reduceAdd, wz, t0, t1, t7, IntWalk.i64_in, intOf_int]
        refine ⟨⟨0, v2, cur ++ [128 + (65533) % 256 % 64], rfl, rfl, by omega, by simp only [List.length_append, List.length_singleton]; omega, ?_, C.then C2 (fun y hy => .inl (hb1 y hy.1)), R1.trans R2, fun y hy => ?_, ?_⟩, by omega⟩
        · simpa [bI] using O2
        · rw [ev2] at hy; simp only [blkOf, Option.some.injEq] at hy; have := Ch.le C; omega
        · rw [← hcur]; simp only [tailB, List.append_assoc, List.cons_append, List.nil_append]; first | (congr 2; done) | (congr 2; simp only [Int.reducePow] <;> omega)
      · replace t7 : tm 7 = .int .i64 1 := by rw [t7]; rfl
        have K0 := Ch.wf C
        obtain ⟨v2, h2, e2, O2, C2, R2, ev2, _⟩ := O1.append1 (P := prog) K0 (by have := Ch.le C; omega) underlying30 elem5 fits5 (by decide) (by decide) (xs := [.int .u8 (128 + (((65533) / 64)) % 256 % 64)]) rfl (by omega)
        simp (disch := omega) only [wk, wt, wl, ↓reduceIte, Nat.reduceEqDiff, Nat.reduceAdd, wz, t0, t1, t7, Int.reduceMul, shr6 (P := prog) (x := 65533) hf0, aconv, IntKind.wrap_u8, u8_and63, u8_or128, IntWalk.i64_in, decide_true]
        rw [e2]; clear e2
        simp (disch := omega) only [wk, wt, wl, ↓reduceIte, Nat.reduceEqDiff, Nat.reduceAdd, wz, t0, t1, t7, IntWalk.i64_in, intOf_int]
        refine ⟨⟨1, v2, cur ++ [128 + (((65533) / 64)) % 256 % 64], rfl, rfl, by omega, by simp only [List.length_append, List.length_singleton]; omega, ?_, C.then C2 (fun y hy => .inl (hb1 y hy.1)), R1.trans R2, fun y hy => ?_, ?_⟩, by omega⟩
        · simpa [bI] using O2
        · rw [ev2] at hy; simp only [blkOf, Option.some.injEq] at hy; have := Ch.le C; omega
        · rw [← hcur]; simp only [tailB, List.append_assoc, List.cons_append, List.nil_append]; first | (congr 2; done) | (congr 2; simp only [Int.reducePow] <;> omega)
      · replace t7 : tm 7 = .int .i64 2 := by rw [t7]; rfl
        have K0 := Ch.wf C
        obtain ⟨v2, h2, e2, O2, C2, R2, ev2, _⟩ := O1.append1 (P := prog) K0 (by have := Ch.le C; omega) underlying30 elem5 fits5 (by decide) (by decide) (xs := [.int .u8 (128 + (((65533) / 4096)) % 256 % 64)]) rfl (by omega)
        simp (disch := omega) only [wk, wt, wl, ↓reduceIte, Nat.reduceEqDiff, Nat.reduceAdd, wz, t0, t1, t7, Int.reduceMul, shr12 (P := prog) (x := 65533) hf0, aconv, IntKind.wrap_u8, u8_and63, u8_or128, IntWalk.i64_in, decide_true]
        rw [e2]; clear e2
        simp (disch := omega) only [wk, wt, wl, ↓reduceIte, Nat.reduceEqDiff, Nat.reduceAdd, wz, t0, t1, t7, IntWalk.i64_in, intOf_int]
        refine ⟨⟨2, v2, cur ++ [128 + (((65533) / 4096)) % 256 % 64], rfl, rfl, by omega, by simp only [List.length_append, List.length_singleton]; omega, ?_, C.then C2 (fun y hy => .inl (hb1 y hy.1)), R1.trans R2, fun y hy => ?_, ?_⟩, by omega⟩
        · simpa [bI] using O2
        · rw [ev2] at hy; simp only [blkOf, Option.some.injEq] at hy; have := Ch.le C; omega
        · rw [← hcur]; simp only [tailB, List.append_assoc, List.cons_append, List.nil_append]; first | (congr 2; done) | (congr 2; simp only [Int.reducePow] <;> omega)
    · have hj0 : j = 0 := by omega
      subst hj0
      simp only [tailB, List.append_nil] at hcur
      simp only [wk, wt, wl, ↓reduceIte, Nat.reduceEqDiff, Nat.reduceAdd, wz, t0]
      rw [encR, hx, ← hcur]
      exact ⟨O1, C, R1, hb1⟩
  | true =>
    have hx : fixR r = r := by simp [fixR, hv]
    have hf := fixR_range (r := r)
    rw [hx] at hf
    obtain ⟨hf0, hf1⟩ := hf
    simp only [wk, wt, wl, ↓reduceIte, Nat.reduceEqDiff, Nat.reduceAdd, wz, Bool.not_true]
    rcases encV_tail hf0 hf1 with ⟨hc1, hc2⟩ | ⟨hc0, hc1, hc2⟩ | ⟨hc0, hc1, hc2⟩ | ⟨hc0, hc2⟩
    · have hn : (lenZ r : Int) = 1 := by
        have : lenZ r = (encV r).length := by rw [lenZ, encR, hx]
        rw [this, hc2]; rfl
      obtain ⟨v1, h1, e1, O1, C1, R1, ev1, _⟩ := O.append1 (P := prog) H hB underlying30 elem5 fits5 (by decide) (by decide) (xs := [.int .u8 r]) rfl (by omega)
      have d11 : decide ((1 : Int) = 1) = true := by decide
      simp (disch := omega) only [wk, wt, wl, ↓reduceIte, Nat.reduceEqDiff, Nat.reduceAdd, wz, hn, d11, aconv, IntWalk.u8_in]
      rw [e1]; clear e1
      simp only [wk, wt, wl, ↓reduceIte, Nat.reduceEqDiff, Nat.reduceAdd, wz]
      rw [encR, hx, hc2]
      exact ⟨by simpa [bI] using O1, C1, R1, fun y hy => by rw [ev1] at hy; simp only [blkOf, Option.some.injEq] at hy; omega⟩
    · skip
      have hn : (lenZ r : Int) = 2 := by
        have : lenZ r = (encV r).length := by rw [lenZ, encR, hx]
        rw [this, hc2]; simp [tailB]
      have d31 : decide ((2 : Int) = 1) = false := by decide
      obtain ⟨v1, h1, e1, O1, C1, R1, ev1, _⟩ := O.append1 (P := prog) H hB underlying30 elem5 fits5 (by decide) (by decide) (xs := [.int .u8 (192 + r / 64)]) rfl (by omega)
      simp (disch := omega) only [wk, wt, wl, ↓reduceIte, Nat.reduceEqDiff, Nat.reduceAdd, wz, hn, d31, Int.reduceSub, Int.reduceMul, Int.reduceAdd, Int.reduceDiv, shl_lead, shr6 (P := prog) (x := r) hf0, aconv, IntWalk.u8_in, u8_or192, IntWalk.i64_in]
      rw [e1]; clear e1
      simp (disch := omega) only [wk, wt, wl, ↓reduceIte, Nat.reduceEqDiff, Nat.reduceAdd, wz, hn, Int.reduceSub, IntWalk.i64_in]
      refine W_loop (fun tm h' => ∃ (j : Nat) (v1 : Value) (cur : List Int), tm 0 = v1 ∧ tm 1 = .int .i32 (r) ∧ tm 7 = .int .i64 ((j : Int) - 1) ∧ j ≤ 3 ∧ cur.length + j ≤ b.length + 4 ∧ Own prog B h' 1 v1 cur.length (bI cur) ∧ Ch (fun y => blkOf v = some y ∧ B ≤ y) h h' ∧ Reads h h' ∧ (∀ y, blkOf v1 = some y → h.size ≤ y) ∧ cur ++ tailB (r) j = b ++ encV (r))
        (fun tm _ => (intOf (tm 7) + 1).toNat) ⟨1, v1, b ++ [192 + r / 64], (by first | rfl | (simp only [wk, wt, wl, ↓reduceIte, Nat.reduceEqDiff, Nat.reduceAdd, wz]; done) | (simp only [wk, wt, wl, ↓reduceIte, Nat.reduceEqDiff, Nat.reduceAdd, wz]; rfl)), (by first | rfl | (simp only [wk, wt, wl, ↓reduceIte, Nat.reduceEqDiff, Nat.reduceAdd, wz]; done) | (simp only [wk, wt, wl, ↓reduceIte, Nat.reduceEqDiff, Nat.reduceAdd, wz]; rfl)), (by first | rfl | (simp only [wk, wt, wl, ↓reduceIte, Nat.reduceEqDiff, Nat.reduceAdd, wz]; done) | (simp only [wk, wt, wl, ↓reduceIte, Nat.reduceEqDiff, Nat.reduceAdd, wz]; rfl)), by omega, by simp only [List.length_append, List.length_singleton]; omega, by simpa [bI] using O1, C1, R1, fun y hy => by rw [ev1] at hy; simp only [blkOf, Option.some.injEq] at hy; omega, by rw [hc2]; simp⟩ ?_
      clear O1 C1 R1 ev1
      rintro tm h' ⟨j, v1, cur, t0, t1, t7, hj, hcl, O1, C, R1, hb1, hcur⟩
      simp only [wk, wt, wl, ↓reduceIte, Nat.reduceEqDiff, Nat.reduceAdd, wz, t0, t1, t7]
      refine condK_dec (fun hd => ?_) (fun hd => ?_)
      · rcases (show j = 1 ∨ j = 2 ∨ j = 3 by omega) with rfl | rfl | rfl
        · replace t7 : tm 7 = .int .i64 0 := by rw [t7]; rfl
          have K0 := Ch.wf C
          obtain ⟨v2, h2, e2, O2, C2, R2, ev2, _⟩ := O1.append1 (P := prog) K0 (by have := Ch.le C; omega) underlying30 elem5 fits5 (by decide) (by decide) (xs := [.int .u8 (128 + (r) % 256 % 64)]) rfl (by omega)
          simp (disch := omega) only [wk, wt, wl, ↓reduceIte, Nat.reduceEqDiff, Nat.reduceAdd, wz, t0, t1, t7, Int.reduceMul, shr0 (P := prog) (x := r) hf0, aconv, IntKind.wrap_u8, u8_and63, u8_or128, IntWalk.i64_in, decide_true]
          rw [e2]; clear e2
          simp (disch := omega) only [wk, wt, wl, ↓reduceIte, Nat.reduceEqDiff, Nat.reduceAdd, wz, t0, t1, t7, IntWalk.i64_in, intOf_int]
          refine ⟨⟨0, v2, cur ++ [128 + (r) % 256 % 64], rfl, rfl, by omega, by simp only [List.length_append, List.length_singleton]; omega, ?_, C.then C2 (fun y hy => .inl (hb1 y hy.1)), R1.trans R2, fun y hy => ?_, ?_⟩, by omega⟩
          · simpa [bI] using O2
          · rw [ev2] at hy; simp only [blkOf, Option.some.injEq] at hy; have := Ch.le C; omega
          · rw [← hcur]; simp only [tailB, List.append_assoc, List.cons_append, List.nil_append]; first | (congr 2; done) | (congr 2; simp only [Int.reducePow] <;> omega)
        · replace t7 : tm 7 = .int .i64 1 := by rw [t7]; rfl
          have K0 := Ch.wf C
          obtain ⟨v2, h2, e2, O2, C2, R2, ev2, _⟩ := O1.append1 (P := prog) K0 (by have := Ch.le C; omega) underlying30 elem5 fits5 (by decide) (by decide) (xs := [.int .u8 (128 + (((r) / 64)) % 256 % 64)]) rfl (by omega)
          simp (disch := omega) only [wk, wt, wl, ↓reduceIte, Nat.reduceEqDiff, Nat.reduceAdd, wz, t0, t1, t7, Int.reduceMul, shr6 (P := prog) (x := r) hf0, aconv, IntKind.wrap_u8, u8_and63, u8_or128, IntWalk.i64_in, decide_true]
          rw [e2]; clear e2
          simp (disch := omega) only [wk, wt, wl, ↓reduceIte, Nat.reduceEqDiff, Nat.reduceAdd, wz, t0, t1, t7, IntWalk.i64_in, intOf_int]
          refine ⟨⟨1, v2, cur ++ [128 + (((r) / 64)) % 256 % 64], rfl, rfl, by omega, by simp only [List.length_append, List.length_singleton]; omega, ?_, C.then C2 (fun y hy => .inl (hb1 y hy.1)), R1.trans R2, fun y hy => ?_, ?_⟩, by omega⟩
          · simpa [bI] using O2
          · rw [ev2] at hy; simp only [blkOf, Option.some.injEq] at hy; have := Ch.le C; omega
          · rw [← hcur]; simp only [tailB, List.append_assoc, List.cons_append, List.nil_append]; first | (congr 2; done) | (congr 2; simp only [Int.reducePow] <;> omega)
        · replace t7 : tm 7 = .int .i64 2 := by rw [t7]; rfl
          have K0 := Ch.wf C
          obtain ⟨v2, h2, e2, O2, C2, R2, ev2, _⟩ := O1.append1 (P := prog) K0 (by have := Ch.le C; omega) underlying30 elem5 fits5 (by decide) (by decide) (xs := [.int .u8 (128 + (((r) / 4096)) % 256 % 64)]) rfl (by omega)
          simp (disch := omega) only [wk, wt, wl, ↓reduceIte, Nat.reduceEqDiff, Nat.reduceAdd, wz, t0, t1, t7, Int.reduceMul, shr12 (P := prog) (x := r) hf0, aconv, IntKind.wrap_u8, u8_and63, u8_or128, IntWalk.i64_in, decide_true]
          rw [e2]; clear e2
          simp (disch := omega) only [wk, wt, wl, ↓reduceIte, Nat.reduceEqDiff, Nat.reduceAdd, wz, t0, t1, t7, IntWalk.i64_in, intOf_int]
          refine ⟨⟨2, v2, cur ++ [128 + (((r) / 4096)) % 256 % 64], rfl, rfl, by omega, by simp only [List.length_append, List.length_singleton]; omega, ?_, C.then C2 (fun y hy => .inl (hb1 y hy.1)), R1.trans R2, fun y hy => ?_, ?_⟩, by omega⟩
          · simpa [bI] using O2
          · rw [ev2] at hy; simp only [blkOf, Option.some.injEq] at hy; have := Ch.le C; omega
          · rw [← hcur]; simp only [tailB, List.append_assoc, List.cons_append, List.nil_append]; first | (congr 2; done) | (congr 2; simp only [Int.reducePow] <;> omega)
      · have hj0 : j = 0 := by omega
        subst hj0
        simp only [tailB, List.append_nil] at hcur
        simp only [wk, wt, wl, ↓reduceIte, Nat.reduceEqDiff, Nat.reduceAdd, wz, t0]
        rw [encR, hx, ← hcur]
        exact ⟨O1, C, R1, hb1⟩
    · skip
      have hn : (lenZ r : Int) = 3 := by
        have : lenZ r = (encV r).length := by rw [lenZ, encR, hx]
        rw [this, hc2]; simp [tailB]
      have d31 : decide ((3 : Int) = 1) = false := by decide
      obtain ⟨v1, h1, e1, O1, C1, R1, ev1, _⟩ := O.append1 (P := prog) H hB underlying30 elem5 fits5 (by decide) (by decide) (xs := [.int .u8 (224 + r / 4096)]) rfl (by omega)
      simp (disch := omega) only [wk, wt, wl, ↓reduceIte, Nat.reduceEqDiff, Nat.reduceAdd, wz, hn, d31, Int.reduceSub, Int.reduceMul, Int.reduceAdd, Int.reduceDiv, shl_lead, shr12 (P := prog) (x := r) hf0, aconv, IntWalk.u8_in, u8_or224, IntWalk.i64_in]
      rw [e1]; clear e1
      simp (disch := omega) only [wk, wt, wl, ↓reduceIte, Nat.reduceEqDiff, Nat.reduceAdd, wz, hn, Int.reduceSub, IntWalk.i64_in]
      refine W_loop (fun tm h' => ∃ (j : Nat) (v1 : Value) (cur : List Int), tm 0 = v1 ∧ tm 1 = .int .i32 (r) ∧ tm 7 = .int .i64 ((j : Int) - 1) ∧ j ≤ 3 ∧ cur.length + j ≤ b.length + 4 ∧ Own prog B h' 1 v1 cur.length (bI cur) ∧ Ch (fun y => blkOf v = some y ∧ B ≤ y) h h' ∧ Reads h h' ∧ (∀ y, blkOf v1 = some y → h.size ≤ y) ∧ cur ++ tailB (r) j = b ++ encV (r))
        (fun tm _ => (intOf (tm 7) + 1).toNat) ⟨2, v1, b ++ [224 + r / 4096], (by first | rfl | (simp only [wk, wt, wl, ↓reduceIte, Nat.reduceEqDiff, Nat.reduceAdd, wz]; done) | (simp only [wk, wt, wl, ↓reduceIte, Nat.reduceEqDiff, Nat.reduceAdd, wz]; rfl)), (by first | rfl | (simp only [wk, wt, wl, ↓reduceIte, Nat.reduceEqDiff, Nat.reduceAdd, wz]; done) | (simp only [wk, wt, wl, ↓reduceIte, Nat.reduceEqDiff, Nat.reduceAdd, wz]; rfl)), (by first | rfl | (simp only [wk, wt, wl, ↓reduceIte, Nat.reduceEqDiff, Nat.reduceAdd, wz]; done) | (simp only [wk, wt, wl, ↓reduceIte, Nat.reduceEqDiff, Nat.reduceAdd, wz]; rfl)), by omega, by simp only [List.length_append, List.length_singleton]; omega, by simpa [bI] using O1, C1, R1, fun y hy => by rw [ev1] at hy; simp only [blkOf, Option.some.injEq] at hy; omega, by rw [hc2]; simp⟩ ?_
      clear O1 C1 R1 ev1
      rintro tm h' ⟨j, v1, cur, t0, t1, t7, hj, hcl, O1, C, R1, hb1, hcur⟩
      simp only [wk, wt, wl, ↓reduceIte, Nat.reduceEqDiff, Nat.reduceAdd, wz, t0, t1, t7]
      refine condK_dec (fun hd => ?_) (fun hd => ?_)
      · rcases (show j = 1 ∨ j = 2 ∨ j = 3 by omega) with rfl | rfl | rfl
        · replace t7 : tm 7 = .int .i64 0 := by rw [t7]; rfl
          have K0 := Ch.wf C
          obtain ⟨v2, h2, e2, O2, C2, R2, ev2, _⟩ := O1.append1 (P := prog) K0 (by have := Ch.le C; omega) underlying30 elem5 fits5 (by decide) (by decide) (xs := [.int .u8 (128 + (r) % 256 % 64)]) rfl (by omega)
          simp (disch := omega) only [wk, wt, wl, ↓reduceIte, Nat.reduceEqDiff, Nat.reduceAdd, wz, t0, t1, t7, Int.reduceMul, shr0 (P := prog) (x := r) hf0, aconv, IntKind.wrap_u8, u8_and63, u8_or128, IntWalk.i64_in, decide_true]
          rw [e2]; clear e2
          simp (disch := omega) only [wk, wt, wl, ↓reduceIte, Nat.reduceEqDiff, Nat.reduceAdd, wz, t0, t1, t7, IntWalk.i64_in, intOf_int]
          refine ⟨⟨0, v2, cur ++ [128 + (r) % 256 % 64], rfl, rfl, by omega, by simp only [List.length_append, List.length_singleton]; omega, ?_, C.then C2 (fun y hy => .inl (hb1 y hy.1)), R1.trans R2, fun y hy => ?_, ?_⟩, by omega⟩
          · simpa [bI] using O2
          · rw [ev2] at hy; simp only [blkOf, Option.some.injEq] at hy; have := Ch.le C; omega
          · rw [← hcur]; simp only [tailB, List.append_assoc, List.cons_append, List.nil_append]; first | (congr 2; done) | (congr 2; simp only [Int.reducePow] <;> omega)
        · replace t7 : tm 7 = .int .i64 1 := by rw [t7]; rfl
          have K0 := Ch.wf C
          obtain ⟨v2, h2, e2, O2, C2, R2, ev2, _⟩ := O1.append1 (P := prog) K0 (by have := Ch.le C; omega) underlying30 elem5 fits5 (by decide) (by decide) (xs := [.int .u8 (128 + (((r) / 64)) % 256 % 64)]) rfl (by omega)
          simp (disch := omega) only [wk, wt, wl, ↓reduceIte, Nat.reduceEqDiff, Nat.reduceAdd, wz, t0, t1, t7, Int.reduceMul, shr6 (P := prog) (x := r) hf0, aconv, IntKind.wrap_u8, u8_and63, u8_or128, IntWalk.i64_in, decide_true]
          rw [e2]; clear e2
          simp (disch := omega) only [wk, wt, wl, ↓reduceIte, Nat.reduceEqDiff, Nat.reduceAdd, wz, t0, t1, t7, IntWalk.i64_in, intOf_int]
          refine ⟨⟨1, v2, cur ++ [128 + (((r) / 64)) % 256 % 64], rfl, rfl, by omega, by simp only [List.length_append, List.length_singleton]; omega, ?_, C.then C2 (fun y hy => .inl (hb1 y hy.1)), R1.trans R2, fun y hy => ?_, ?_⟩, by omega⟩
          · simpa [bI] using O2
          · rw [ev2] at hy; simp only [blkOf, Option.some.injEq] at hy; have := Ch.le C; omega
          · rw [← hcur]; simp only [tailB, List.append_assoc, List.cons_append, List.nil_append]; first | (congr 2; done) | (congr 2; simp only [Int.reducePow] <;> omega)
        · replace t7 : tm 7 = .int .i64 2 := by rw [t7]; rfl
          have K0 := Ch.wf C
          obtain ⟨v2, h2, e2, O2, C2, R2, ev2, _⟩ := O1.append1 (P := prog) K0 (by have := Ch.le C; omega) underlying30 elem5 fits5 (by decide) (by decide) (xs := [.int .u8 (128 + (((r) / 4096)) % 256 % 64)]) rfl (by omega)
          simp (disch := omega) only [wk, wt, wl, ↓reduceIte, Nat.reduceEqDiff, Nat.reduceAdd, wz, t0, t1, t7, Int.reduceMul, shr12 (P := prog) (x := r) hf0, aconv, IntKind.wrap_u8, u8_and63, u8_or128, IntWalk.i64_in, decide_true]
          rw [e2]; clear e2
          simp (disch := omega) only [wk, wt, wl, ↓reduceIte, Nat.reduceEqDiff, Nat.reduceAdd, wz, t0, t1, t7, IntWalk.i64_in, intOf_int]
          refine ⟨⟨2, v2, cur ++ [128 + (((r) / 4096)) % 256 % 64], rfl, rfl, by omega, by simp only [List.length_append, List.length_singleton]; omega, ?_, C.then C2 (fun y hy => .inl (hb1 y hy.1)), R1.trans R2, fun y hy => ?_, ?_⟩, by omega⟩
          · simpa [bI] using O2
          · rw [ev2] at hy; simp only [blkOf, Option.some.injEq] at hy; have := Ch.le C; omega
          · rw [← hcur]; simp only [tailB, List.append_assoc, List.cons_append, List.nil_append]; first | (congr 2; done) | (congr 2; simp only [Int.reducePow] <;> omega)
      · have hj0 : j = 0 := by omega
        subst hj0
        simp only [tailB, List.append_nil] at hcur
        simp only [wk, wt, wl, ↓reduceIte, Nat.reduceEqDiff, Nat.reduceAdd, wz, t0]
        rw [encR, hx, ← hcur]
        exact ⟨O1, C, R1, hb1⟩
    · skip
      have hn : (lenZ r : Int) = 4 := by
        have : lenZ r = (encV r).length := by rw [lenZ, encR, hx]
        rw [this, hc2]; simp [tailB]
      have d31 : decide ((4 : Int) = 1) = false := by decide
      obtain ⟨v1, h1, e1, O1, C1, R1, ev1, _⟩ := O.append1 (P := prog) H hB underlying30 elem5 fits5 (by decide) (by decide) (xs := [.int .u8 (240 + r / 262144)]) rfl (by omega)
      simp (disch := omega) only [wk, wt, wl, ↓reduceIte, Nat.reduceEqDiff, Nat.reduceAdd, wz, hn, d31, Int.reduceSub, Int.reduceMul, Int.reduceAdd, Int.reduceDiv, shl_lead, shr18 (P := prog) (x := r) hf0, aconv, IntWalk.u8_in, u8_or240, IntWalk.i64_in]
      rw [e1]; clear e1
      simp (disch := omega) only [wk, wt, wl, ↓reduceIte, Nat.reduceEqDiff, Nat.reduceAdd, wz, hn, Int.reduceSub, IntWalk.i64_in]
      refine W_loop (fun tm h' => ∃ (j : Nat) (v1 : Value) (cur : List Int), tm 0 = v1 ∧ tm 1 = .int .i32 (r) ∧ tm 7 = .int .i64 ((j : Int) - 1) ∧ j ≤ 3 ∧ cur.length + j ≤ b.length + 4 ∧ Own prog B h' 1 v1 cur.length (bI cur) ∧ Ch (fun y => blkOf v = some y ∧ B ≤ y) h h' ∧ Reads h h' ∧ (∀ y, blkOf v1 = some y → h.size ≤ y) ∧ cur ++ tailB (r) j = b ++ encV (r))
        (fun tm _ => (intOf (tm 7) + 1).toNat) ⟨3, v1, b ++ [240 + r / 262144], (by first | rfl | (simp only [wk, wt, wl, ↓reduceIte, Nat.reduceEqDiff, Nat.reduceAdd, wz]; done) | (simp only [wk, wt, wl, ↓reduceIte, Nat.reduceEqDiff, Nat.reduceAdd, wz]; rfl)), (by first | rfl | (simp only [wk, wt, wl, ↓reduceIte, Nat.reduceEqDiff, Nat.reduceAdd, wz]; done) | (simp only [wk, wt, wl, ↓reduceIte, Nat.reduceEqDiff, Nat.reduceAdd, wz]; rfl)), (by first | rfl | (simp only [wk, wt, wl, ↓reduceIte, Nat.reduceEqDiff, Nat.reduceAdd, wz]; done) | (simp only [wk, wt, wl, ↓reduceIte, Nat.reduceEqDiff, Nat.reduceAdd, wz]; rfl)), by omega, by simp only [List.length_append, List.length_singleton]; omega, by simpa [bI] using O1, C1, R1, fun y hy => by rw [ev1] at hy; simp only [blkOf, Option.some.injEq] at hy; omega, by rw [hc2]; simp⟩ ?_
      clear O1 C1 R1 ev1
      rintro tm h' ⟨j, v1, cur, t0, t1, t7, hj, hcl, O1, C, R1, hb1, hcur⟩
      simp only [wk, wt, wl, ↓reduceIte, Nat.reduceEqDiff, Nat.reduceAdd, wz, t0, t1, t7]
      refine condK_dec (fun hd => ?_) (fun hd => ?_)
      · rcases (show j = 1 ∨ j = 2 ∨ j = 3 by omega) with rfl | rfl | rfl
        · replace t7 : tm 7 = .int .i64 0 := by rw [t7]; rfl
          have K0 := Ch.wf C
          obtain ⟨v2, h2, e2, O2, C2, R2, ev2, _⟩ := O1.append1 (P := prog) K0 (by have := Ch.le C; omega) underlying30 elem5 fits5 (by decide) (by decide) (xs := [.int .u8 (128 + (r) % 256 % 64)]) rfl (by omega)
          simp (disch := omega) only [wk, wt, wl, ↓reduceIte, Nat.reduceEqDiff, Nat.reduceAdd, wz, t0, t1, t7, Int.reduceMul, shr0 (P := prog) (x := r) hf0, aconv, IntKind.wrap_u8, u8_and63, u8_or128, IntWalk.i64_in, decide_true]
          rw [e2]; clear e2
          simp (disch := omega) only [wk, wt, wl, ↓reduceIte, Nat.reduceEqDiff, Nat.reduceAdd, wz, t0, t1, t7, IntWalk.i64_in, intOf_int]
          refine ⟨⟨0, v2, cur ++ [128 + (r) % 256 % 64], rfl, rfl, by omega, by simp only [List.length_append, List.length_singleton]; omega, ?_, C.then C2 (fun y hy => .inl (hb1 y hy.1)), R1.trans R2, fun y hy => ?_, ?_⟩, by omega⟩
          · simpa [bI] using O2
          · rw [ev2] at hy; simp only [blkOf, Option.some.injEq] at hy; have := Ch.le C; omega
          · rw [← hcur]; simp only [tailB, List.append_assoc, List.cons_append, List.nil_append]; first | (congr 2; done) | (congr 2; simp only [Int.reducePow] <;> omega)
        · replace t7 : tm 7 = .int .i64 1 := by rw [t7]; rfl
          have K0 := Ch.wf C
          obtain ⟨v2, h2, e2, O2, C2, R2, ev2, _⟩ := O1.append1 (P := prog) K0 (by have := Ch.le C; omega) underlying30 elem5 fits5 (by decide) (by decide) (xs := [.int .u8 (128 + (((r) / 64)) % 256 % 64)]) rfl (by omega)
          simp (disch := omega) only [wk, wt, wl, ↓reduceIte, Nat.reduceEqDiff, Nat.reduceAdd, wz, t0, t1, t7, Int.reduceMul, shr6 (P := prog) (x := r) hf0, aconv, IntKind.wrap_u8, u8_and63, u8_or128, IntWalk.i64_in, decide_true]
          rw [e2]; clear e2
          simp (disch := omega) only [wk, wt, wl, ↓reduceIte, Nat.reduceEqDiff, Nat.reduceAdd, wz, t0, t1, t7, IntWalk.i64_in, intOf_int]
          refine ⟨⟨1, v2, cur ++ [128 + (((r) / 64)) % 256 % 64], rfl, rfl, by omega, by simp only [List.length_append, List.length_singleton]; omega, ?_, C.then C2 (fun y hy => .inl (hb1 y hy.1)), R1.trans R2, fun y hy => ?_, ?_⟩, by omega⟩
          · simpa [bI] using O2
          · rw [ev2] at hy; simp only [blkOf, Option.some.injEq] at hy; have := Ch.le C; omega
          · rw [← hcur]; simp only [tailB, List.append_assoc, List.cons_append, List.nil_append]; first | (congr 2; done) | (congr 2; simp only [Int.reducePow] <;> omega)
        · replace t7 : tm 7 = .int .i64 2 := by rw [t7]; rfl
          have K0 := Ch.wf C
          obtain ⟨v2, h2, e2, O2, C2, R2, ev2, _⟩ := O1.append1 (P := prog) K0 (by have := Ch.le C; omega) underlying30 elem5 fits5 (by decide) (by decide) (xs := [.int .u8 (128 + (((r) / 4096)) % 256 % 64)]) rfl (by omega)
          simp (disch := omega) only [wk, wt, wl, ↓reduceIte, Nat.reduceEqDiff, Nat.reduceAdd, wz, t0, t1, t7, Int.reduceMul, shr12 (P := prog) (x := r) hf0, aconv, IntKind.wrap_u8, u8_and63, u8_or128, IntWalk.i64_in, decide_true]
          rw [e2]; clear e2
          simp (disch := omega) only [wk, wt, wl, ↓reduceIte, Nat.reduceEqDiff, Nat.reduceAdd, wz, t0, t1, t7, IntWalk.i64_in, intOf_int]
          refine ⟨⟨2, v2, cur ++ [128 + (((r) / 4096)) % 256 % 64], rfl, rfl, by omega, by simp only [List.length_append, List.length_singleton]; omega, ?_, C.then C2 (fun y hy => .inl (hb1 y hy.1)), R1.trans R2, fun y hy => ?_, ?_⟩, by omega⟩
          · simpa [bI] using O2
          · rw [ev2] at hy; simp only [blkOf, Option.some.injEq] at hy; have := Ch.le C; omega
          · rw [← hcur]; simp only [tailB, List.append_assoc, List.cons_append, List.nil_append]; first | (congr 2; done) | (congr 2; simp only [Int.reducePow] <;> omega)
      · have hj0 : j = 0 := by omega
        subst hj0
        simp only [tailB, List.append_nil] at hcur
        simp only [wk, wt, wl, ↓reduceIte, Nat.reduceEqDiff, Nat.reduceAdd, wz, t0]
        rw [encR, hx, ← hcur]
        exact ⟨O1, C, R1, hb1⟩
def encL (l : List Int) : List Int := l.flatMap encR
theorem take_next {l : List Int} {i : Nat} (hi : i < l.length) : l.take (i + 1) = l.take i ++ [l.getD i 0] := by
  rw [List.take_succ_eq_append_getElem hi, List.getD_eq_getElem?_getD, List.getElem?_eq_getElem hi]; rfl
theorem encL_next {l : List Int} {i : Nat} (hi : i < l.length) : encL (l.take (i + 1)) = encL (l.take i) ++ encR (l.getD i 0) := by
  rw [take_next hi]; simp [encL]
theorem encL_len (l : List Int) : (encL l).length ≤ 4 * l.length := by
  induction l with
  | nil => simp [encL]
  | cons r l ih =>
    have := lenZ_range (r := r)
    unfold lenZ at this
    simp only [encL, List.flatMap_cons, List.length_append, List.length_cons] at ih ⊢; omega
theorem encL_isB {l : List Int} : ∀ y, y ∈ encL l → isB y := fun y hy => by
  obtain ⟨r, _, h⟩ := List.mem_flatMap.1 hy
  exact encR_isB y h
theorem encode_ok {a : Value} {l : List Int} {h : Heap} (ha : RdI prog h .i32 a l) (hl : l.length ≤ 100000000) (hr : ∀ j, isR (l.getD j 0)) :
    ACalls prog 36 #[a] h (fun v h' => Own prog h.size h' 1 v (encL l).length (bI (encL l)) ∧ Keeps h h' ∧ ∀ y, blkOf v = some y → h.size ≤ y) := by
  refine acalls_of_W' func36 rfl (by kernel_rfl) (by kernel_rfl) (by simp [ntmps36]) ?_
  intro H
  simp only [wk, wt, wl, ↓reduceIte, Nat.reduceEqDiff, Nat.reduceAdd, wz, RdI.len ha underlying43]
  refine W_loop (fun tm h' => Keeps h h' ∧ tm 0 = a ∧ tm 6 = .int .i64 l.length ∧ ∃ (i : Nat) (v : Value), tm 7 = .int .i64 i ∧ tm 3 = v ∧ i ≤ l.length ∧ Own prog h.size h' 1 v (encL (l.take i)).length (bI (encL (l.take i))) ∧ ∀ y, blkOf v = some y → h.size ≤ y) (fun tm _ => (l.length - intOf (tm 7)).toNat)
    ⟨Keeps.refl H, (by first | rfl | (simp only [wk, wt, wl, ↓reduceIte, Nat.reduceEqDiff, Nat.reduceAdd, wz]; done) | (simp only [wk, wt, wl, ↓reduceIte, Nat.reduceEqDiff, Nat.reduceAdd, wz]; rfl)), (by first | rfl | (simp only [wk, wt, wl, ↓reduceIte, Nat.reduceEqDiff, Nat.reduceAdd, wz]; done) | (simp only [wk, wt, wl, ↓reduceIte, Nat.reduceEqDiff, Nat.reduceAdd, wz]; rfl)), 0, .slice none 0 0, (by first | rfl | (simp only [wk, wt, wl, ↓reduceIte, Nat.reduceEqDiff, Nat.reduceAdd, wz]; done) | (simp only [wk, wt, wl, ↓reduceIte, Nat.reduceEqDiff, Nat.reduceAdd, wz]; rfl)), (by first | rfl | (simp only [wk, wt, wl, ↓reduceIte, Nat.reduceEqDiff, Nat.reduceAdd, wz]; done) | (simp only [wk, wt, wl, ↓reduceIte, Nat.reduceEqDiff, Nat.reduceAdd, wz]; rfl)), by omega, by simpa [encL, bI] using Own.nil0, fun y hy => by cases hy⟩ ?_
  rintro tm h' ⟨K, t0, t6, i, v, t7, t3, hi, O, hb⟩
  simp only [wk, wt, wl, ↓reduceIte, Nat.reduceEqDiff, Nat.reduceAdd, wz, t0, t6, t7, t3]
  refine condK_dec (fun hd => ?_) (fun hd => ?_)
  · have hi1 : i < l.length := by omega
    have hlen := encL_len (l.take i)
    simp only [List.length_take] at hlen
    simp (disch := omega) only [wk, wt, wl, ↓reduceIte, Nat.reduceEqDiff, Nat.reduceAdd, wz, t0, t6, t7, t3, RdI.index (ha.keeps K) underlying43 asz21 (q := .i64) (i := (i : Int)), Int.toNat_natCast, RdI.at (ha.keeps K) (t := 21) underlying21 rfl hi1]
    refine (put_ok (Ch.le K) O (hr i) (by omega)).use ?_
    rintro v2 h2 ⟨O2, C2, R2, hb2⟩
    have K2 := K.step C2 fun b hb => hb.2
    simp (disch := omega) only [wk, wt, wl, ↓reduceIte, Nat.reduceEqDiff, Nat.reduceAdd, wz, t0, t6, t7, IntWalk.i64_in, intOf_int]
    exact ⟨⟨K2, i + 1, v2, by simp, rfl, by omega, by rw [encL_next hi1]; exact O2, fun y hy => by have := hb2 y hy; have := Ch.le K; omega⟩, by omega⟩
  · simp only [wk, wt, wl, ↓reduceIte, Nat.reduceEqDiff, Nat.reduceAdd, wz, t3]
    rw [List.take_of_length_le (by omega)] at O
    exact ⟨O, K, hb⟩
theorem rdNewB {h : Heap} (H : Wf h) (xs : List Int) : RdI prog (h.new 5 (bI xs)) .u8 (.slice (some ⟨h.size, 0, none⟩) xs.length (xs.length + 1)) xs := Rd.new H asz5 (by simp [bI])
end Go.Proofs.YthmpaddhmgnkbaaDoor.Am
end
section
/- A scalar with whose bytes a row begins: contracts of the document's value, same and Whole, by walks. -/
set_option linter.unusedSimpArgs false
set_option linter.unusedVariables false
set_option maxRecDepth 20000
set_option maxHeartbeats 4000000
namespace Go.Proofs.YthmpaddhmgnkbaaDoor.Am
open Go Go.RowKit Go.Proofs.Tryd
def valGo : Int → List Int → Option Int
  | v, [] => some v
  | v, x :: t => if x < 128 ∨ 191 < x then none else valGo (v * 64 + x - 128) t
def valOff (n : Nat) : Int := if n = 2 then 192 else if n = 3 then 224 else if n = 4 then 240 else 0
def valueZ (b : List Int) (n : Nat) : Int :=
  match valGo (b.getD 0 0 - valOff n) ((b.take n).drop 1) with
  | none => -1
  | some v => if v < 0 ∨ 1114111 < v then -1 else v
theorem valueZ_range {b : List Int} {n : Nat} : -1 ≤ valueZ b n ∧ valueZ b n ≤ 1114111 := by
  unfold valueZ
  split
  · omega
  · split <;> omega
theorem valueZ_enc {r : Int} (hr : validB r = true) (t : List Int) : valueZ (encV r ++ t) (encV r).length = r := by
  simp only [validB, decide_eq_true_eq] at hr
  unfold encV
  repeat' split
  · simp [valueZ, valOff, valGo]; omega
  · simp only [valueZ, valOff, List.cons_append, List.nil_append, List.length_cons, List.length_nil, Nat.zero_add, Nat.reduceAdd, Nat.reduceEqDiff, if_true, if_false, List.take_succ_cons, List.take_zero, List.drop_succ_cons, List.drop_zero, List.getD_cons_zero, valGo]
    rw [if_neg (by omega)]; simp only; rw [if_neg (by omega)]; omega
  · simp only [valueZ, valOff, List.cons_append, List.nil_append, List.length_cons, List.length_nil, Nat.zero_add, Nat.reduceAdd, Nat.reduceEqDiff, if_true, if_false, List.take_succ_cons, List.take_zero, List.drop_succ_cons, List.drop_zero, List.getD_cons_zero, valGo]
    rw [if_neg (by omega), if_neg (by omega)]; simp only; rw [if_neg (by omega)]; omega
  · simp only [valueZ, valOff, List.cons_append, List.nil_append, List.length_cons, List.length_nil, Nat.zero_add, Nat.reduceAdd, Nat.reduceEqDiff, if_true, if_false, List.take_succ_cons, List.take_zero, List.drop_succ_cons, List.drop_zero, List.getD_cons_zero, valGo]
    rw [if_neg (by omega), if_neg (by omega), if_neg (by omega)]; simp only; rw [if_neg (by omega)]; omega
/-- Does the document find a scalar of n bytes? -/
def testB (b : List Int) (n : Nat) : Prop := 0 ≤ valueZ b n ∧ validB (valueZ b n) = true ∧ encV (valueZ b n) = b.take n
theorem testB_iff {b : List Int} {n : Nat} (hb : ∀ x, x ∈ b → isB x) (hn : n ≤ b.length) : testB b n ↔ wholeZ b = some (valueZ b n, n) := by
  constructor
  · rintro ⟨h1, h2, h3⟩
    have hl : (encV (valueZ b n)).length = n := by rw [h3, List.length_take]; omega
    have e : b = encV (valueZ b n) ++ b.drop n := by rw [h3]; exact (List.take_append_drop n b).symm
    have := nextZ_enc h2 (b.drop n)
    rw [← e, hl] at this
    simp only [wholeZ, this]
    rw [if_neg]
    intro e2
    simp only [Prod.mk.injEq] at e2
    rw [e2.1, e2.2] at hl
    revert hl; decide
  · intro h
    simp only [wholeZ] at h
    split at h
    · rename_i p hp
      split at h
      · cases h
      · rename_i hg
        simp only [Option.some.injEq] at h
        subst h
        obtain ⟨h1, t, h2, h3⟩ := nextZ_exact hb hp hg
        refine ⟨?_, h1, ?_⟩
        · simp only [validB, decide_eq_true_eq] at h1; omega
        · have := congrArg (List.take n) h2
          rw [this]; exact (List.take_left' h3.symm).symm
    · cases h
theorem whole_cases {b : List Int} (hb : ∀ x, x ∈ b → isB x) {r : Int} {n : Nat} (h : wholeZ b = some (r, n)) : 1 ≤ n ∧ n ≤ 4 ∧ n ≤ b.length ∧ r = valueZ b n ∧ validB r = true := by
  simp only [wholeZ] at h
  split at h
  · rename_i p hp
    split at h
    · cases h
    · rename_i hg
      simp only [Option.some.injEq] at h
      subst h
      obtain ⟨h1, t, h2, h3⟩ := nextZ_exact hb hp hg
      have := nextZ_le hp
      refine ⟨by omega, by omega, by omega, ?_, h1⟩
      rw [h2, h3]; exact (valueZ_enc h1 t).symm
  · cases h
theorem whole_none {b : List Int} (hb : ∀ x, x ∈ b → isB x) (h : ∀ n, 1 ≤ n → n ≤ 4 → n ≤ b.length → ¬ testB b n) : wholeZ b = none := by
  cases hw : wholeZ b with
  | none => rfl
  | some p =>
    obtain ⟨r, n⟩ := p
    obtain ⟨h1, h2, h3, h4, _⟩ := whole_cases hb hw
    exact absurd ((testB_iff hb h3).2 (by rw [hw, h4])) (h n h1 h2 h3)
theorem value_ok {v : Value} {b : List Int} {n : Nat} {h : Heap} (hv : RdI prog h .u8 v b) (hb : ∀ x, x ∈ b → isB x) (h1 : 1 ≤ n) (h4 : n ≤ 4) (hn : n ≤ b.length) :
    ACalls prog 76 #[v, .int .i64 n] h (fun x h' => x = .int .i32 (valueZ b n) ∧ h' = h) := by
  have hB := fun i => isB_getD hb i
  have hB0 := hB 0
  unfold isB at hB0
  refine acalls_of_W func76 rfl (by kernel_rfl) (by kernel_rfl) (by simp [ntmps76]) ?_
  simp (disch := omega) only [wk, wt, wl, ↓reduceIte, Nat.reduceEqDiff, Nat.reduceAdd, wz, RdI.index hv underlying30 asz5 (q := .i64) (i := 0), Int.toNat_zero, RdI.at hv underlying5 rfl (i := 0), aconv, IntWalk.i64_in]
  have hoff : 0 ≤ valOff n ∧ valOff n ≤ 240 := by unfold valOff; repeat' split <;> omega
  rcases (show n = 1 ∨ n = 2 ∨ n = 3 ∨ n = 4 by omega) with rfl | rfl | rfl | rfl
  · have d2 : decide ((1 : Int) = 2) = false := by decide
    have d3 : decide ((1 : Int) = 3) = false := by decide
    have d4 : decide ((1 : Int) = 4) = false := by decide
    simp (disch := omega) only [wk, wt, wl, ↓reduceIte, Nat.reduceEqDiff, Nat.reduceAdd, wz, d2, d3, d4, Int.cast_ofNat_Int]
    have hvo : valOff 1 = 0 := by decide
    obtain ⟨G, hG⟩ : ∃ G, valGo (b.getD 0 0 - valOff 1) ((b.take 1).drop 1) = G := ⟨_, rfl⟩
    refine W_loop (fun tm h' => h' = h ∧ tm 0 = v ∧ tm 1 = .int .i64 1 ∧ ∃ (i : Nat) (y : Int), tm 7 = .int .i64 i ∧ tm 6 = .int .i64 y ∧ 1 ≤ i ∧ i ≤ 1 ∧ ((i = 1 ∧ -240 ≤ y ∧ y ≤ 255) ∨ (i = 2 ∧ -15360 ≤ y ∧ y ≤ 16383) ∨ (i = 3 ∧ -983040 ≤ y ∧ y ≤ 1048575) ∨ (i = 4 ∧ -62914560 ≤ y ∧ y ≤ 67108863)) ∧ G = valGo y ((b.take 1).drop i))
      (fun tm _ => (1 - intOf (tm 7)).toNat) ⟨rfl, (by first | rfl | (simp only [wk, wt, wl, ↓reduceIte, Nat.reduceEqDiff, Nat.reduceAdd, wz]; done) | (simp only [wk, wt, wl, ↓reduceIte, Nat.reduceEqDiff, Nat.reduceAdd, wz]; rfl)), (by first | rfl | (simp only [wk, wt, wl, ↓reduceIte, Nat.reduceEqDiff, Nat.reduceAdd, wz]; done) | (simp only [wk, wt, wl, ↓reduceIte, Nat.reduceEqDiff, Nat.reduceAdd, wz]; rfl)), 1, b.getD 0 0 - valOff 1, (by first | rfl | (simp only [wk, wt, wl, ↓reduceIte, Nat.reduceEqDiff, Nat.reduceAdd, wz]; done) | (simp only [wk, wt, wl, ↓reduceIte, Nat.reduceEqDiff, Nat.reduceAdd, wz]; rfl)), ?_, by omega, by omega, .inl ⟨rfl, by omega, by omega⟩, hG.symm⟩ ?_
    · simp only [wk, wt, wl, ↓reduceIte, Nat.reduceEqDiff, Nat.reduceAdd, wz, hvo, Int.sub_zero]
    rintro tm h' ⟨rfl, t0, t1, i, y, t7, t6, hi1, hi2, hy, hgo⟩
    simp only [wk, wt, wl, ↓reduceIte, Nat.reduceEqDiff, Nat.reduceAdd, wz, t0, t1, t7, t6]
    refine condK_dec (fun hd => ?_) (fun hd => ?_)
    · have hib : i < b.length := by omega
      have hit : i < (b.take 1).length := by rw [List.length_take]; omega
      rw [List.drop_eq_getElem_cons hit] at hgo
      have LX := RdI.at hv (t := 5) underlying5 rfl hib
      have ex : (b.take 1)[i] = b.getD i 0 := by rw [List.getElem_take, List.getD_eq_getElem?_getD, List.getElem?_eq_getElem hib]; rfl
      rw [ex] at hgo
      have hx := hB i
      generalize b.getD i 0 = x at LX hgo hx
      simp only [valGo] at hgo
      unfold isB at hx
      by_cases hbad : x < 128 ∨ 191 < x
      · rw [if_pos hbad] at hgo
        have fin : valueZ b 1 = -1 := by simp only [valueZ, hG, hgo]
        by_cases hl1 : x < 128
        · have e1 : decide (x < 128) = true := decide_eq_true hl1
          simp (disch := omega) only [wk, wt, wl, ↓reduceIte, Nat.reduceEqDiff, Nat.reduceAdd, wz, t0, t1, t7, t6, RdI.index hv underlying30 asz5 (q := .i64) (i := (i : Int)), Int.toNat_natCast, LX, e1]
          rw [fin]; exact ⟨rfl, trivial⟩
        · have e1 : decide (x < 128) = false := decide_eq_false hl1
          have e2 : decide (191 < x) = true := decide_eq_true (by omega)
          simp (disch := omega) only [wk, wt, wl, ↓reduceIte, Nat.reduceEqDiff, Nat.reduceAdd, wz, t0, t1, t7, t6, RdI.index hv underlying30 asz5 (q := .i64) (i := (i : Int)), Int.toNat_natCast, LX, e1, e2]
          rw [fin]; exact ⟨rfl, trivial⟩
      · rw [if_neg hbad] at hgo
        have e1 : decide (x < 128) = false := decide_eq_false (by omega)
        have e2 : decide (191 < x) = false := decide_eq_false (by omega)
        simp (disch := omega) only [wk, wt, wl, ↓reduceIte, Nat.reduceEqDiff, Nat.reduceAdd, wz, t0, t1, t7, t6, RdI.index hv underlying30 asz5 (q := .i64) (i := (i : Int)), Int.toNat_natCast, LX, e1, e2, aconv, IntWalk.i64_in, intOf_int]
        exact ⟨⟨i + 1, y * 64 + x - 128, by simp, rfl, by omega, by omega, by omega, hgo⟩, by omega⟩
    · have hie : i = 1 := by omega
      rw [List.drop_of_length_le (by rw [List.length_take]; omega)] at hgo
      simp only [valGo] at hgo
      by_cases hbad : y < 0 ∨ 1114111 < y
      · have fin : valueZ b 1 = -1 := by simp only [valueZ, hG, hgo]; rw [if_pos hbad]
        by_cases hl1 : y < 0
        · have e1 : decide (y < 0) = true := decide_eq_true hl1
          simp (disch := omega) only [wk, wt, wl, ↓reduceIte, Nat.reduceEqDiff, Nat.reduceAdd, wz, t0, t1, t7, t6, e1]
          rw [fin]; exact ⟨rfl, trivial⟩
        · have e1 : decide (y < 0) = false := decide_eq_false hl1
          have e2 : decide (1114111 < y) = true := decide_eq_true (by omega)
          simp (disch := omega) only [wk, wt, wl, ↓reduceIte, Nat.reduceEqDiff, Nat.reduceAdd, wz, t0, t1, t7, t6, e1, e2]
          rw [fin]; exact ⟨rfl, trivial⟩
      · have fin : valueZ b 1 = y := by simp only [valueZ, hG, hgo]; rw [if_neg hbad]
        have e1 : decide (y < 0) = false := decide_eq_false (by omega)
        have e2 : decide (1114111 < y) = false := decide_eq_false (by omega)
        simp (disch := omega) only [wk, wt, wl, ↓reduceIte, Nat.reduceEqDiff, Nat.reduceAdd, wz, t0, t1, t7, t6, e1, e2, aconv, IntWalk.i32_in]
        rw [fin]; exact ⟨rfl, trivial⟩
  · have d2 : decide ((2 : Int) = 2) = true := by decide
    simp (disch := omega) only [wk, wt, wl, ↓reduceIte, Nat.reduceEqDiff, Nat.reduceAdd, wz, d2, Int.cast_ofNat_Int, IntWalk.i64_in]
    have hvo : valOff 2 = 192 := by decide
    obtain ⟨G, hG⟩ : ∃ G, valGo (b.getD 0 0 - valOff 2) ((b.take 2).drop 1) = G := ⟨_, rfl⟩
    refine W_loop (fun tm h' => h' = h ∧ tm 0 = v ∧ tm 1 = .int .i64 2 ∧ ∃ (i : Nat) (y : Int), tm 7 = .int .i64 i ∧ tm 6 = .int .i64 y ∧ 1 ≤ i ∧ i ≤ 2 ∧ ((i = 1 ∧ -240 ≤ y ∧ y ≤ 255) ∨ (i = 2 ∧ -15360 ≤ y ∧ y ≤ 16383) ∨ (i = 3 ∧ -983040 ≤ y ∧ y ≤ 1048575) ∨ (i = 4 ∧ -62914560 ≤ y ∧ y ≤ 67108863)) ∧ G = valGo y ((b.take 2).drop i))
      (fun tm _ => (2 - intOf (tm 7)).toNat) ⟨rfl, (by first | rfl | (simp only [wk, wt, wl, ↓reduceIte, Nat.reduceEqDiff, Nat.reduceAdd, wz]; done) | (simp only [wk, wt, wl, ↓reduceIte, Nat.reduceEqDiff, Nat.reduceAdd, wz]; rfl)), (by first | rfl | (simp only [wk, wt, wl, ↓reduceIte, Nat.reduceEqDiff, Nat.reduceAdd, wz]; done) | (simp only [wk, wt, wl, ↓reduceIte, Nat.reduceEqDiff, Nat.reduceAdd, wz]; rfl)), 1, b.getD 0 0 - valOff 2, (by first | rfl | (simp only [wk, wt, wl, ↓reduceIte, Nat.reduceEqDiff, Nat.reduceAdd, wz]; done) | (simp only [wk, wt, wl, ↓reduceIte, Nat.reduceEqDiff, Nat.reduceAdd, wz]; rfl)), ?_, by omega, by omega, .inl ⟨rfl, by omega, by omega⟩, hG.symm⟩ ?_
    · simp only [wk, wt, wl, ↓reduceIte, Nat.reduceEqDiff, Nat.reduceAdd, wz, hvo, Int.sub_zero]
    rintro tm h' ⟨rfl, t0, t1, i, y, t7, t6, hi1, hi2, hy, hgo⟩
    simp only [wk, wt, wl, ↓reduceIte, Nat.reduceEqDiff, Nat.reduceAdd, wz, t0, t1, t7, t6]
    refine condK_dec (fun hd => ?_) (fun hd => ?_)
    · have hib : i < b.length := by omega
      have hit : i < (b.take 2).length := by rw [List.length_take]; omega
      rw [List.drop_eq_getElem_cons hit] at hgo
      have LX := RdI.at hv (t := 5) underlying5 rfl hib
      have ex : (b.take 2)[i] = b.getD i 0 := by rw [List.getElem_take, List.getD_eq_getElem?_getD, List.getElem?_eq_getElem hib]; rfl
      rw [ex] at hgo
      have hx := hB i
      generalize b.getD i 0 = x at LX hgo hx
      simp only [valGo] at hgo
      unfold isB at hx
      by_cases hbad : x < 128 ∨ 191 < x
      · rw [if_pos hbad] at hgo
        have fin : valueZ b 2 = -1 := by simp only [valueZ, hG, hgo]
        by_cases hl1 : x < 128
        · have e1 : decide (x < 128) = true := decide_eq_true hl1
          simp (disch := omega) only [wk, wt, wl, ↓reduceIte, Nat.reduceEqDiff, Nat.reduceAdd, wz, t0, t1, t7, t6, RdI.index hv underlying30 asz5 (q := .i64) (i := (i : Int)), Int.toNat_natCast, LX, e1]
          rw [fin]; exact ⟨rfl, trivial⟩
        · have e1 : decide (x < 128) = false := decide_eq_false hl1
          have e2 : decide (191 < x) = true := decide_eq_true (by omega)
          simp (disch := omega) only [wk, wt, wl, ↓reduceIte, Nat.reduceEqDiff, Nat.reduceAdd, wz, t0, t1, t7, t6, RdI.index hv underlying30 asz5 (q := .i64) (i := (i : Int)), Int.toNat_natCast, LX, e1, e2]
          rw [fin]; exact ⟨rfl, trivial⟩
      · rw [if_neg hbad] at hgo
        have e1 : decide (x < 128) = false := decide_eq_false (by omega)
        have e2 : decide (191 < x) = false := decide_eq_false (by omega)
        simp (disch := omega) only [wk, wt, wl, ↓reduceIte, Nat.reduceEqDiff, Nat.reduceAdd, wz, t0, t1, t7, t6, RdI.index hv underlying30 asz5 (q := .i64) (i := (i : Int)), Int.toNat_natCast, LX, e1, e2, aconv, IntWalk.i64_in, intOf_int]
        exact ⟨⟨i + 1, y * 64 + x - 128, by simp, rfl, by omega, by omega, by omega, hgo⟩, by omega⟩
    · have hie : i = 2 := by omega
      rw [List.drop_of_length_le (by rw [List.length_take]; omega)] at hgo
      simp only [valGo] at hgo
      by_cases hbad : y < 0 ∨ 1114111 < y
      · have fin : valueZ b 2 = -1 := by simp only [valueZ, hG, hgo]; rw [if_pos hbad]
        by_cases hl1 : y < 0
        · have e1 : decide (y < 0) = true := decide_eq_true hl1
          simp (disch := omega) only [wk, wt, wl, ↓reduceIte, Nat.reduceEqDiff, Nat.reduceAdd, wz, t0, t1, t7, t6, e1]
          rw [fin]; exact ⟨rfl, trivial⟩
        · have e1 : decide (y < 0) = false := decide_eq_false hl1
          have e2 : decide (1114111 < y) = true := decide_eq_true (by omega)
          simp (disch := omega) only [wk, wt, wl, ↓reduceIte, Nat.reduceEqDiff, Nat.reduceAdd, wz, t0, t1, t7, t6, e1, e2]
          rw [fin]; exact ⟨rfl, trivial⟩
      · have fin : valueZ b 2 = y := by simp only [valueZ, hG, hgo]; rw [if_neg hbad]
        have e1 : decide (y < 0) = false := decide_eq_false (by omega)
        have e2 : decide (1114111 < y) = false := decide_eq_false (by omega)
        simp (disch := omega) only [wk, wt, wl, ↓reduceIte, Nat.reduceEqDiff, Nat.reduceAdd, wz, t0, t1, t7, t6, e1, e2, aconv, IntWalk.i32_in]
        rw [fin]; exact ⟨rfl, trivial⟩
  · have d2 : decide ((3 : Int) = 2) = false := by decide
    have d3 : decide ((3 : Int) = 3) = true := by decide
    simp (disch := omega) only [wk, wt, wl, ↓reduceIte, Nat.reduceEqDiff, Nat.reduceAdd, wz, d2, d3, Int.cast_ofNat_Int, IntWalk.i64_in]
    have hvo : valOff 3 = 224 := by decide
    obtain ⟨G, hG⟩ : ∃ G, valGo (b.getD 0 0 - valOff 3) ((b.take 3).drop 1) = G := ⟨_, rfl⟩
    refine W_loop (fun tm h' => h' = h ∧ tm 0 = v ∧ tm 1 = .int .i64 3 ∧ ∃ (i : Nat) (y : Int), tm 7 = .int .i64 i ∧ tm 6 = .int .i64 y ∧ 1 ≤ i ∧ i ≤ 3 ∧ ((i = 1 ∧ -240 ≤ y ∧ y ≤ 255) ∨ (i = 2 ∧ -15360 ≤ y ∧ y ≤ 16383) ∨ (i = 3 ∧ -983040 ≤ y ∧ y ≤ 1048575) ∨ (i = 4 ∧ -62914560 ≤ y ∧ y ≤ 67108863)) ∧ G = valGo y ((b.take 3).drop i))
      (fun tm _ => (3 - intOf (tm 7)).toNat) ⟨rfl, (by first | rfl | (simp only [wk, wt, wl, ↓reduceIte, Nat.reduceEqDiff, Nat.reduceAdd, wz]; done) | (simp only [wk, wt, wl, ↓reduceIte, Nat.reduceEqDiff, Nat.reduceAdd, wz]; rfl)), (by first | rfl | (simp only [wk, wt, wl, ↓reduceIte, Nat.reduceEqDiff, Nat.reduceAdd, wz]; done) | (simp only [wk, wt, wl, ↓reduceIte, Nat.reduceEqDiff, Nat.reduceAdd, wz]; rfl)), 1, b.getD 0 0 - valOff 3, (by first | rfl | (simp only [wk, wt, wl, ↓reduceIte, Nat.reduceEqDiff, Nat.reduceAdd, wz]; done) | (simp only [wk, wt, wl, ↓reduceIte, Nat.reduceEqDiff, Nat.reduceAdd, wz]; rfl)), ?_, by omega, by omega, .inl ⟨rfl, by omega, by omega⟩, hG.symm⟩ ?_
    · simp only [wk, wt, wl, ↓reduceIte, Nat.reduceEqDiff, Nat.reduceAdd, wz, hvo, Int.sub_zero]
    rintro tm h' ⟨rfl, t0, t1, i, y, t7, t6, hi1, hi2, hy, hgo⟩
    simp only [wk, wt, wl, ↓reduceIte, Nat.reduceEqDiff, Nat.reduceAdd, wz, t0, t1, t7, t6]
    refine condK_dec (fun hd => ?_) (fun hd => ?_)
    · have hib : i < b.length := by omega
      have hit : i < (b.take 3).length := by rw [List.length_take]; omega
      rw [List.drop_eq_getElem_cons hit] at hgo
      have LX := RdI.at hv (t := 5) underlying5 rfl hib
      have ex : (b.take 3)[i] = b.getD i 0 := by rw [List.getElem_take, List.getD_eq_getElem?_getD, List.getElem?_eq_getElem hib]; rfl
      rw [ex] at hgo
      have hx := hB i
      generalize b.getD i 0 = x at LX hgo hx
      simp only [valGo] at hgo
      unfold isB at hx
      by_cases hbad : x < 128 ∨ 191 < x
      · rw [if_pos hbad] at hgo
        have fin : valueZ b 3 = -1 := by simp only [valueZ, hG, hgo]
        by_cases hl1 : x < 128
        · have e1 : decide (x < 128) = true := decide_eq_true hl1
          simp (disch := omega) only [wk, wt, wl, ↓reduceIte, Nat.reduceEqDiff, Nat.reduceAdd, wz, t0, t1, t7, t6, RdI.index hv underlying30 asz5 (q := .i64) (i := (i : Int)), Int.toNat_natCast, LX, e1]
          rw [fin]; exact ⟨rfl, trivial⟩
        · have e1 : decide (x < 128) = false := decide_eq_false hl1
          have e2 : decide (191 < x) = true := decide_eq_true (by omega)
          simp (disch := omega) only [wk, wt, wl, ↓reduceIte, Nat.reduceEqDiff, Nat.reduceAdd, wz, t0, t1, t7, t6, RdI.index hv underlying30 asz5 (q := .i64) (i := (i : Int)), Int.toNat_natCast, LX, e1, e2]
          rw [fin]; exact ⟨rfl, trivial⟩
      · rw [if_neg hbad] at hgo
        have e1 : decide (x < 128) = false := decide_eq_false (by omega)
        have e2 : decide (191 < x) = false := decide_eq_false (by omega)
        simp (disch := omega) only [wk, wt, wl, ↓reduceIte, Nat.reduceEqDiff, Nat.reduceAdd, wz, t0, t1, t7, t6, RdI.index hv underlying30 asz5 (q := .i64) (i := (i : Int)), Int.toNat_natCast, LX, e1, e2, aconv, IntWalk.i64_in, intOf_int]
        exact ⟨⟨i + 1, y * 64 + x - 128, by simp, rfl, by omega, by omega, by omega, hgo⟩, by omega⟩
    · have hie : i = 3 := by omega
      rw [List.drop_of_length_le (by rw [List.length_take]; omega)] at hgo
      simp only [valGo] at hgo
      by_cases hbad : y < 0 ∨ 1114111 < y
      · have fin : valueZ b 3 = -1 := by simp only [valueZ, hG, hgo]; rw [if_pos hbad]
        by_cases hl1 : y < 0
        · have e1 : decide (y < 0) = true := decide_eq_true hl1
          simp (disch := omega) only [wk, wt, wl, ↓reduceIte, Nat.reduceEqDiff, Nat.reduceAdd, wz, t0, t1, t7, t6, e1]
          rw [fin]; exact ⟨rfl, trivial⟩
        · have e1 : decide (y < 0) = false := decide_eq_false hl1
          have e2 : decide (1114111 < y) = true := decide_eq_true (by omega)
          simp (disch := omega) only [wk, wt, wl, ↓reduceIte, Nat.reduceEqDiff, Nat.reduceAdd, wz, t0, t1, t7, t6, e1, e2]
          rw [fin]; exact ⟨rfl, trivial⟩
      · have fin : valueZ b 3 = y := by simp only [valueZ, hG, hgo]; rw [if_neg hbad]
        have e1 : decide (y < 0) = false := decide_eq_false (by omega)
        have e2 : decide (1114111 < y) = false := decide_eq_false (by omega)
        simp (disch := omega) only [wk, wt, wl, ↓reduceIte, Nat.reduceEqDiff, Nat.reduceAdd, wz, t0, t1, t7, t6, e1, e2, aconv, IntWalk.i32_in]
        rw [fin]; exact ⟨rfl, trivial⟩
  · have d2 : decide ((4 : Int) = 2) = false := by decide
    have d3 : decide ((4 : Int) = 3) = false := by decide
    have d4 : decide ((4 : Int) = 4) = true := by decide
    simp (disch := omega) only [wk, wt, wl, ↓reduceIte, Nat.reduceEqDiff, Nat.reduceAdd, wz, d2, d3, d4, Int.cast_ofNat_Int, IntWalk.i64_in]
    have hvo : valOff 4 = 240 := by decide
    obtain ⟨G, hG⟩ : ∃ G, valGo (b.getD 0 0 - valOff 4) ((b.take 4).drop 1) = G := ⟨_, rfl⟩
    refine W_loop (fun tm h' => h' = h ∧ tm 0 = v ∧ tm 1 = .int .i64 4 ∧ ∃ (i : Nat) (y : Int), tm 7 = .int .i64 i ∧ tm 6 = .int .i64 y ∧ 1 ≤ i ∧ i ≤ 4 ∧ ((i = 1 ∧ -240 ≤ y ∧ y ≤ 255) ∨ (i = 2 ∧ -15360 ≤ y ∧ y ≤ 16383) ∨ (i = 3 ∧ -983040 ≤ y ∧ y ≤ 1048575) ∨ (i = 4 ∧ -62914560 ≤ y ∧ y ≤ 67108863)) ∧ G = valGo y ((b.take 4).drop i))
      (fun tm _ => (4 - intOf (tm 7)).toNat) ⟨rfl, (by first | rfl | (simp only [wk, wt, wl, ↓reduceIte, Nat.reduceEqDiff, Nat.reduceAdd, wz]; done) | (simp only [wk, wt, wl, ↓reduceIte, Nat.reduceEqDiff, Nat.reduceAdd, wz]; rfl)), (by first | rfl | (simp only [wk, wt, wl, ↓reduceIte, Nat.reduceEqDiff, Nat.reduceAdd, wz]; done) | (simp only [wk, wt, wl, ↓reduceIte, Nat.reduceEqDiff, Nat.reduceAdd, wz]; rfl)), 1, b.getD 0 0 - valOff 4, (by first | rfl | (simp only [wk, wt, wl, ↓reduceIte, Nat.reduceEqDiff, Nat.reduceAdd, wz]; done) | (simp only [wk, wt, wl, ↓reduceIte, Nat.reduceEqDiff, Nat.reduceAdd, wz]; rfl)), ?_, by omega, by omega, .inl ⟨rfl, by omega, by omega⟩, hG.symm⟩ ?_
    · simp only [wk, wt, wl, ↓reduceIte, Nat.reduceEqDiff, Nat.reduceAdd, wz, hvo, Int.sub_zero]
    rintro tm h' ⟨rfl, t0, t1, i, y, t7, t6, hi1, hi2, hy, hgo⟩
    simp only [wk, wt, wl, ↓reduceIte, Nat.reduceEqDiff, Nat.reduceAdd, wz, t0, t1, t7, t6]
    refine condK_dec (fun hd => ?_) (fun hd => ?_)
    · have hib : i < b.length := by omega
      have hit : i < (b.take 4).length := by rw [List.length_take]; omega
      rw [List.drop_eq_getElem_cons hit] at hgo
      have LX := RdI.at hv (t := 5) underlying5 rfl hib
      have ex : (b.take 4)[i] = b.getD i 0 := by rw [List.getElem_take, List.getD_eq_getElem?_getD, List.getElem?_eq_getElem hib]; rfl
      rw [ex] at hgo
      have hx := hB i
      generalize b.getD i 0 = x at LX hgo hx
      simp only [valGo] at hgo
      unfold isB at hx
      by_cases hbad : x < 128 ∨ 191 < x
      · rw [if_pos hbad] at hgo
        have fin : valueZ b 4 = -1 := by simp only [valueZ, hG, hgo]
        by_cases hl1 : x < 128
        · have e1 : decide (x < 128) = true := decide_eq_true hl1
          simp (disch := omega) only [wk, wt, wl, ↓reduceIte, Nat.reduceEqDiff, Nat.reduceAdd, wz, t0, t1, t7, t6, RdI.index hv underlying30 asz5 (q := .i64) (i := (i : Int)), Int.toNat_natCast, LX, e1]
          rw [fin]; exact ⟨rfl, trivial⟩
        · have e1 : decide (x < 128) = false := decide_eq_false hl1
          have e2 : decide (191 < x) = true := decide_eq_true (by omega)
          simp (disch := omega) only [wk, wt, wl, ↓reduceIte, Nat.reduceEqDiff, Nat.reduceAdd, wz, t0, t1, t7, t6, RdI.index hv underlying30 asz5 (q := .i64) (i := (i : Int)), Int.toNat_natCast, LX, e1, e2]
          rw [fin]; exact ⟨rfl, trivial⟩
      · rw [if_neg hbad] at hgo
        have e1 : decide (x < 128) = false := decide_eq_false (by omega)
        have e2 : decide (191 < x) = false := decide_eq_false (by omega)
        simp (disch := omega) only [wk, wt, wl, ↓reduceIte, Nat.reduceEqDiff, Nat.reduceAdd, wz, t0, t1, t7, t6, RdI.index hv underlying30 asz5 (q := .i64) (i := (i : Int)), Int.toNat_natCast, LX, e1, e2, aconv, IntWalk.i64_in, intOf_int]
        exact ⟨⟨i + 1, y * 64 + x - 128, by simp, rfl, by omega, by omega, by omega, hgo⟩, by omega⟩
    · have hie : i = 4 := by omega
      rw [List.drop_of_length_le (by rw [List.length_take]; omega)] at hgo
      simp only [valGo] at hgo
      by_cases hbad : y < 0 ∨ 1114111 < y
      · have fin : valueZ b 4 = -1 := by simp only [valueZ, hG, hgo]; rw [if_pos hbad]
        by_cases hl1 : y < 0
        · have e1 : decide (y < 0) = true := decide_eq_true hl1
          simp (disch := omega) only [wk, wt, wl, ↓reduceIte, Nat.reduceEqDiff, Nat.reduceAdd, wz, t0, t1, t7, t6, e1]
          rw [fin]; exact ⟨rfl, trivial⟩
        · have e1 : decide (y < 0) = false := decide_eq_false hl1
          have e2 : decide (1114111 < y) = true := decide_eq_true (by omega)
          simp (disch := omega) only [wk, wt, wl, ↓reduceIte, Nat.reduceEqDiff, Nat.reduceAdd, wz, t0, t1, t7, t6, e1, e2]
          rw [fin]; exact ⟨rfl, trivial⟩
      · have fin : valueZ b 4 = y := by simp only [valueZ, hG, hgo]; rw [if_neg hbad]
        have e1 : decide (y < 0) = false := decide_eq_false (by omega)
        have e2 : decide (1114111 < y) = false := decide_eq_false (by omega)
        simp (disch := omega) only [wk, wt, wl, ↓reduceIte, Nat.reduceEqDiff, Nat.reduceAdd, wz, t0, t1, t7, t6, e1, e2, aconv, IntWalk.i32_in]
        rw [fin]; exact ⟨rfl, trivial⟩
end Go.Proofs.YthmpaddhmgnkbaaDoor.Am
end
section
/- A scalar with whose bytes a row begins: contracts of the document's same and Whole, by walks. -/
set_option linter.unusedSimpArgs false
set_option linter.unusedVariables false
set_option maxRecDepth 20000
set_option maxHeartbeats 4000000
namespace Go.Proofs.YthmpaddhmgnkbaaDoor.Am
open Go Go.RowKit Go.Proofs.Tryd
theorem sameB_ok {a b : Value} {xs ys : List Int} {h : Heap} (ha : RdI prog h .u8 a xs) (hb : RdI prog h .u8 b ys) (hlen : xs.length < 9223372036854775807) : ACalls prog 77 #[a, b] h (fun v h' => v = .bool (decide (xs = ys)) ∧ h' = h) := by
  refine acalls_of_W func77 rfl (by kernel_rfl) (by kernel_rfl) (by simp [ntmps77]) ?_
  simp only [wk, wt, wl, ↓reduceIte, Nat.reduceEqDiff, Nat.reduceAdd, wz, Rd.len ha underlying30, Rd.len hb underlying30]
  refine condK_dec (fun hc => ?_) (fun hc => ?_)
  · simp only [wk, wt, wl, ↓reduceIte, Nat.reduceEqDiff, Nat.reduceAdd, wz]
    refine ⟨?_, trivial⟩
    have : ¬ xs = ys := fun e => hc (by rw [e])
    simp [this]
  · have hl : xs.length = ys.length := by omega
    simp only [wk, wt, wl, ↓reduceIte, Nat.reduceEqDiff, Nat.reduceAdd, wz]
    refine W_loop (fun tm h' => h' = h ∧ tm 0 = a ∧ tm 1 = b ∧ ∃ i : Nat, tm 5 = .int .i64 i ∧ i ≤ xs.length ∧ ∀ j, j < i → xs.getD j 0 = ys.getD j 0) (fun tm _ => (xs.length - intOf (tm 5)).toNat) ⟨rfl, by simp only [wk, wt, wl, ↓reduceIte, Nat.reduceEqDiff, Nat.reduceAdd, wz], by simp only [wk, wt, wl, ↓reduceIte, Nat.reduceEqDiff, Nat.reduceAdd, wz], 0, by simp only [wk, wt, wl, ↓reduceIte, Nat.reduceEqDiff, Nat.reduceAdd, wz]; rfl, by omega, fun j hj => by omega⟩ ?_
    rintro tm h' ⟨rfl, h0, h1, i, h5, hi, hj⟩
    simp only [wk, wt, wl, ↓reduceIte, Nat.reduceEqDiff, Nat.reduceAdd, wz, h0, h1, h5, Rd.len ha underlying30]
    refine condK_dec (fun hc => ?_) (fun hc => ?_)
    · simp only [wk, wt, wl, ↓reduceIte, Nat.reduceEqDiff, Nat.reduceAdd, wz]
      refine adraw_order [(0, false), (1, false), (2, false), (3, false), (4, false), (5, false), (6, false), (7, false), (8, false)] mixed (by kernel_rfl) (by kernel_rfl) (by kernel_rfl) (by with_reducible repeat (first | exact PF_retK | refine PF_thenK ?_ | refine PF_blockK ?_)) ?_
      simp only [wk, wt, wl, ↓reduceIte, Nat.reduceEqDiff, Nat.reduceAdd, wz, h0, h1, h5, Rd.index ha underlying30 asz5 (q := .i64) (i := i) (by omega) (by omega), Rd.index hb underlying30 asz5 (q := .i64) (i := i) (by omega) (by omega), RdI.at ha underlying5 rfl (i := i) (by omega), RdI.at hb underlying5 rfl (i := i) (by omega)]
      refine condK_dec (fun hd => ?_) (fun hd => ?_)
      · simp only [wk, wt, wl, ↓reduceIte, Nat.reduceEqDiff, Nat.reduceAdd, wz]
        have : ¬ xs = ys := fun e => hd (by rw [e])
        simp [this]
      · simp (disch := omega) only [wk, wt, wl, ↓reduceIte, Nat.reduceEqDiff, Nat.reduceAdd, wz, h0, h1, h5, IntWalk.i64_in, intOf_int]
        refine ⟨⟨i + 1, by simp, by omega, fun j hj' => ?_⟩, by omega⟩
        by_cases e : j = i
        · subst e; exact Decidable.not_not.1 hd
        · exact hj j (by omega)
    · simp only [wk, wt, wl, ↓reduceIte, Nat.reduceEqDiff, Nat.reduceAdd, wz]
      have : xs = ys := getD_ext hl fun j hj' => hj j (by omega)
      simp [this]
def wholeT (b : List Int) : Value :=
  match wholeZ b with
  | some p => .tuple #[.int .i32 p.1, .int .i64 p.2, .bool true]
  | none => .tuple #[.int .i32 0, .int .i64 0, .bool false]
theorem whole_ok {v : Value} {b : List Int} {h : Heap} (hv : RdI prog h .u8 v b) (hb : ∀ x, x ∈ b → isB x) (hl : b.length ≤ 9223372036854775807) :
    ACalls prog 60 #[v] h (fun x h' => x = wholeT b ∧ Keeps h h') := by
  refine acalls_of_W' func60 rfl (by kernel_rfl) (by kernel_rfl) (by simp [ntmps60]) ?_
  intro H
  simp only [wk, wt, wl, ↓reduceIte, Nat.reduceEqDiff, Nat.reduceAdd, wz]
  refine W_loop (fun tm h' => Keeps h h' ∧ tm 0 = v ∧ ∃ n : Nat, tm 5 = .int .i64 n ∧ 1 ≤ n ∧ n ≤ 5 ∧ n ≤ b.length + 1 ∧ ∀ m, 1 ≤ m → m < n → ¬ testB b m) (fun tm _ => (5 - intOf (tm 5)).toNat) ⟨Keeps.refl H, (by first | rfl | (simp only [wk, wt, wl, ↓reduceIte, Nat.reduceEqDiff, Nat.reduceAdd, wz]; done) | (simp only [wk, wt, wl, ↓reduceIte, Nat.reduceEqDiff, Nat.reduceAdd, wz]; rfl)), 1, (by first | rfl | (simp only [wk, wt, wl, ↓reduceIte, Nat.reduceEqDiff, Nat.reduceAdd, wz]; done) | (simp only [wk, wt, wl, ↓reduceIte, Nat.reduceEqDiff, Nat.reduceAdd, wz]; rfl)), by omega, by omega, by omega, fun m h1 h2 => by omega⟩ ?_
  rintro tm h' ⟨K, t0, n, t5, h1, h5, hn, hno⟩
  have hv' := hv.keeps K
  by_cases hgo : n ≤ 4 ∧ n ≤ b.length
  · obtain ⟨h4, hn'⟩ := hgo
    have d1 : decide ((n : Int) ≤ 4) = true := decide_eq_true (by omega)
    have d2 : decide ((n : Int) ≤ b.length) = true := decide_eq_true (by omega)
    simp (disch := omega) only [wk, wt, wl, ↓reduceIte, Nat.reduceEqDiff, Nat.reduceAdd, wz, t0, t5, RdI.len hv' underlying30, d1, d2]
    refine (value_ok hv' hb h1 h4 hn').use_pure ?_
    have zr := valueZ_range (b := b) (n := n)
    have ti := testB_iff hb hn'
    have zR : isR (valueZ b n) := by unfold isR; omega
    have key : ∀ {Q : Value → Heap → Prop}, True := fun {_} => trivial
    have tdef : testB b n ↔ (0 ≤ valueZ b n ∧ validB (valueZ b n) = true ∧ encV (valueZ b n) = b.take n) := Iff.rfl
    generalize valueZ b n = z at zr ti zR tdef ⊢
    have nxt : ¬ testB b n → ∀ m, 1 ≤ m → m < n + 1 → ¬ testB b m := fun hnt m g1 g2 => by
      by_cases e : m = n
      · subst e; exact hnt
      · exact hno m g1 (by omega)
    simp only [wk, wt, wl, ↓reduceIte, Nat.reduceEqDiff, Nat.reduceAdd, wz]
    refine adraw_order [(0, false), (1, false), (2, false), (3, false), (4, true), (5, false), (6, false), (7, false), (9, false), (10, false), (11, false), (8, true), (12, true), (13, false)] mixed (by kernel_rfl) (by kernel_rfl) (by kernel_rfl) (by with_reducible repeat (first | exact PF_retK | refine PF_thenK ?_ | refine PF_blockK ?_)) ?_
    by_cases hz : 0 ≤ z
    · have d3 : decide (0 ≤ z) = true := decide_eq_true hz
      simp (disch := omega) only [wk, wt, wl, ↓reduceIte, Nat.reduceEqDiff, Nat.reduceAdd, wz, t0, t5, d3, dK_t]
      refine (refValid_ok zR).use_pure ?_
      cases hvz : validB z with
      | true =>
        simp (disch := omega) only [wk, wt, wl, ↓reduceIte, Nat.reduceEqDiff, Nat.reduceAdd, wz, t0, t5, dK_t, Rd.sliceHi hv' underlying30 asz5, Int.toNat_natCast]
        refine ⟨Reads.refl _, ?_⟩
        refine (one_ok zR).use_pure ?_
        have ez : encR z = encV z := by rw [encR, fixR, if_pos hvz]
        have N := Keeps.new (Ch.wf K) 5 (bI (encR z))
        have X := rdNewB (Ch.wf K) (encR z)
        have hv2 := hv'.keeps N
        have P2 := hv2.part (L := 0) (H := n) (Nat.zero_le _) hn'
        rw [List.drop_zero, Nat.sub_zero] at P2
        simp (disch := omega) only [wk, wt, wl, ↓reduceIte, Nat.reduceEqDiff, Nat.reduceAdd, wz, t0, t5, dK_t]
        refine ⟨N.reads (Ch.wf K), ?_⟩
        have hel := lenZ_range (r := z)
        unfold lenZ at hel
        refine (sameB_ok X P2 (by omega)).use_pure ?_
        by_cases hs : encR z = b.take n
        · have hw := ti.1 (tdef.2 ⟨hz, hvz, ez ▸ hs⟩)
          have d4 : decide (encR z = b.take n) = true := decide_eq_true hs
          simp (disch := omega) only [wk, wt, wl, ↓reduceIte, Nat.reduceEqDiff, Nat.reduceAdd, wz, t0, t5, dK_t, d4]
          refine ⟨Reads.refl _, ?_⟩
          simp only [wholeT, hw]
          first
            | exact K.trans N
            | exact ⟨rfl, K.trans N⟩
            | exact ⟨trivial, K.trans N⟩
        · have d4 : decide (encR z = b.take n) = false := decide_eq_false hs
          have hnt : ¬ testB b n := fun e => hs (ez.trans (tdef.1 e).2.2)
          simp (disch := omega) only [wk, wt, wl, ↓reduceIte, Nat.reduceEqDiff, Nat.reduceAdd, wz, t0, t5, dK_t, d4, IntWalk.i64_in, intOf_int]
          refine ⟨Reads.refl _, ?_⟩
          exact ⟨⟨K.trans N, n + 1, by simp, by omega, by omega, by omega, nxt hnt⟩, by omega⟩
      | false =>
        have hnt : ¬ testB b n := fun e => by have := (tdef.1 e).2.1; rw [hvz] at this; cases this
        simp (disch := omega) only [wk, wt, wl, ↓reduceIte, Nat.reduceEqDiff, Nat.reduceAdd, wz, t0, t5, dK_t, IntWalk.i64_in, intOf_int]
        repeat (refine ⟨Reads.refl _, ?_⟩)
        exact ⟨⟨K, n + 1, by simp, by omega, by omega, by omega, nxt hnt⟩, by omega⟩
    · have d3 : decide (0 ≤ z) = false := decide_eq_false hz
      have hnt : ¬ testB b n := fun e => hz (tdef.1 e).1
      simp (disch := omega) only [wk, wt, wl, ↓reduceIte, Nat.reduceEqDiff, Nat.reduceAdd, wz, t0, t5, d3, dK_t, IntWalk.i64_in, intOf_int]
      repeat (refine ⟨Reads.refl _, ?_⟩)
      exact ⟨⟨K, n + 1, by simp, by omega, by omega, by omega, nxt hnt⟩, by omega⟩
  · have hw : wholeZ b = none := whole_none hb fun m g1 g2 g3 => hno m g1 (by omega)
    by_cases h4 : n ≤ 4
    · have d1 : decide ((n : Int) ≤ 4) = true := decide_eq_true (by omega)
      have d2 : decide ((n : Int) ≤ b.length) = false := decide_eq_false (by omega)
      simp (disch := omega) only [wk, wt, wl, ↓reduceIte, Nat.reduceEqDiff, Nat.reduceAdd, wz, t0, t5, RdI.len hv' underlying30, d1, d2]
      simp only [wholeT, hw]
      first
        | exact K
        | exact ⟨rfl, K⟩
        | exact ⟨trivial, K⟩
    · have d1 : decide ((n : Int) ≤ 4) = false := decide_eq_false (by omega)
      simp (disch := omega) only [wk, wt, wl, ↓reduceIte, Nat.reduceEqDiff, Nat.reduceAdd, wz, t0, t5, d1]
      simp only [wholeT, hw]
      first
        | exact K
        | exact ⟨rfl, K⟩
        | exact ⟨trivial, K⟩
end Go.Proofs.YthmpaddhmgnkbaaDoor.Am
end
section
/- Could more bytes make a scalar: contracts of the document's begins and Next, by walks. -/
set_option linter.unusedSimpArgs false
set_option linter.unusedVariables false
set_option maxRecDepth 20000
set_option maxHeartbeats 4000000
namespace Go.Proofs.YthmpaddhmgnkbaaDoor.Am
open Go Go.RowKit Go.Proofs.Tryd
def beginsZ (b : List Int) : Bool := decide (b ≠ [] ∧ nextZ b = none)
theorem begins_true {b : List Int} {x : Int} (hx : x ∈ endsT) (h : extB b x) : beginsZ b = true := decide_eq_true (ext_iff.1 ⟨x, hx, h⟩)
theorem begins_false {b : List Int} (h : ∀ x, x ∈ endsT → ¬ extB b x) : beginsZ b = false := decide_eq_false fun e => by
  obtain ⟨x, hx, hh⟩ := ext_iff.2 e
  exact h x hx hh
theorem endsT_B : ∀ x, x ∈ endsT → isB x := by
  intro x hx
  simp only [endsT, List.mem_cons, List.not_mem_nil, or_false] at hx
  unfold isB; omega
theorem begins_ok : ∀ (k : Nat) {v : Value} {b : List Int} {h : Heap}, 4 - b.length ≤ k → RdI prog h .u8 v b → (∀ x, x ∈ b → isB x) →
    ACalls prog 61 #[v] h (fun x h' => x = .bool (beginsZ b) ∧ Keeps h h') := by
  intro k
  induction k with
  | zero =>
    intro v b h hk hv hb
    refine acalls_of_W' func61 rfl (by kernel_rfl) (by kernel_rfl) (by simp [ntmps61]) ?_
    intro H
    have e : decide ((4 : Int) ≤ b.length) = true := decide_eq_true (by omega)
    simp only [wk, wt, wl, ↓reduceIte, Nat.reduceEqDiff, Nat.reduceAdd, wz, RdI.len hv underlying30, e]
    have : beginsZ b = false := decide_eq_false fun e => by have := (nextZ_none e.2).1; omega
    rw [this]
    exact ⟨rfl, Keeps.refl H⟩
  | succ k ih =>
    intro v b h hk hv hb
    have hk' : 4 - (b.length + 1) ≤ k := by omega
    refine acalls_of_W' func61 rfl (by kernel_rfl) (by kernel_rfl) (by simp [ntmps61]) ?_
    intro H
    by_cases h4 : 4 ≤ b.length
    · have e : decide ((4 : Int) ≤ b.length) = true := decide_eq_true (by omega)
      simp only [wk, wt, wl, ↓reduceIte, Nat.reduceEqDiff, Nat.reduceAdd, wz, RdI.len hv underlying30, e]
      have : beginsZ b = false := decide_eq_false fun e => by have := (nextZ_none e.2).1; omega
      rw [this]
      exact ⟨rfl, Keeps.refl H⟩
    have e : decide ((4 : Int) ≤ b.length) = false := decide_eq_false (by omega)
    simp only [wk, wt, wl, ↓reduceIte, Nat.reduceEqDiff, Nat.reduceAdd, wz, RdI.len hv underlying30, e, build0 (P := prog) (t := 30) underlying30 asz5]
    have N1 := Keeps.new H 5 []
    have O1 : Own prog h.size (h.new 5 []) 1 (.slice (some ⟨h.size, 0, none⟩) 0 1) 0 [] := Own.new H (Nat.le_refl _) asz5 rfl
    obtain ⟨cv, h2, e2, O2, R2, C2, _⟩ := O1.appendRd (P := prog) (Ch.wf N1) (Ch.le N1) underlying30 underlying30 rfl elem5 fits5 (by decide) (hv.keeps N1) (by omega)
    rw [e2]; clear e2
    have K2 := N1.step C2 fun b hb => hb.2
    have hc : RdI prog h2 .u8 cv b := by
      have := O2.1
      simpa [RdI] using this
    clear O1 O2 R2 C2 N1
    simp only [wk, wt, wl, ↓reduceIte, Nat.reduceEqDiff, Nat.reduceAdd, wz]
    refine W_loop (fun tm h' => h' = h2 ∧ tm 3 = cv) (fun _ _ => 0) ⟨rfl, (by first | rfl | (simp only [wk, wt, wl, ↓reduceIte, Nat.reduceEqDiff, Nat.reduceAdd, wz]; done) | (simp only [wk, wt, wl, ↓reduceIte, Nat.reduceEqDiff, Nat.reduceAdd, wz]; rfl))⟩ ?_
    rintro tm h0 ⟨rfl, t3⟩
    have e4 : decide ((b.length : Int) < 4) = true := decide_eq_true (by omega)
    simp only [wk, wt, wl, ↓reduceIte, Nat.reduceEqDiff, Nat.reduceAdd, wz, t3, RdI.len hc underlying30, e4]
    have N3 := Keeps.new (Ch.wf K2) 5 (bI endsT)
    have T3 := rdNewB (Ch.wf K2) endsT
    have K3 := K2.trans N3
    have hc3 := hc.keeps N3
    refine W_loop (fun tm h' => tm 3 = cv ∧ tm 19 = .slice (some ⟨h0.size, 0, none⟩) 6 7 ∧ tm 20 = .int .i64 6 ∧ Keeps h h' ∧ RdI prog h' .u8 cv b ∧ RdI prog h' .u8 (.slice (some ⟨h0.size, 0, none⟩) 6 7) endsT ∧ ∃ i : Nat, tm 21 = .int .i64 i ∧ i ≤ 6 ∧ ∀ j, j < i → ¬ extB b (endsT.getD j 0)) (fun tm _ => (6 - intOf (tm 21)).toNat)
      ⟨(by first | rfl | (simp only [wk, wt, wl, ↓reduceIte, Nat.reduceEqDiff, Nat.reduceAdd, wz]; done) | (simp only [wk, wt, wl, ↓reduceIte, Nat.reduceEqDiff, Nat.reduceAdd, wz]; rfl) | (simp only [wk, wt, wl, ↓reduceIte, Nat.reduceEqDiff, Nat.reduceAdd, wz, t3]; done) | (simp only [wk, wt, wl, ↓reduceIte, Nat.reduceEqDiff, Nat.reduceAdd, wz, t3]; rfl)), (by first | rfl | (simp only [wk, wt, wl, ↓reduceIte, Nat.reduceEqDiff, Nat.reduceAdd, wz]; done) | (simp only [wk, wt, wl, ↓reduceIte, Nat.reduceEqDiff, Nat.reduceAdd, wz]; rfl)), (by first | rfl | (simp only [wk, wt, wl, ↓reduceIte, Nat.reduceEqDiff, Nat.reduceAdd, wz]; done) | (simp only [wk, wt, wl, ↓reduceIte, Nat.reduceEqDiff, Nat.reduceAdd, wz]; rfl)), K3, hc3, T3, 0, (by first | rfl | (simp only [wk, wt, wl, ↓reduceIte, Nat.reduceEqDiff, Nat.reduceAdd, wz]; done) | (simp only [wk, wt, wl, ↓reduceIte, Nat.reduceEqDiff, Nat.reduceAdd, wz]; rfl)), by omega, fun j hj => by omega⟩ ?_
    clear K3 hc3 T3 t3
    rintro tm h' ⟨t3, t19, t20, K, hc', hT, i, t21, hi, hnx⟩
    simp only [wk, wt, wl, ↓reduceIte, Nat.reduceEqDiff, Nat.reduceAdd, wz, t3, t19, t20, t21]
    refine condK_dec (fun hd => ?_) (fun hd => ?_)
    · have hi6 : i < endsT.length := by have : endsT.length = 6 := rfl; omega
      have hxT : endsT.getD i 0 ∈ endsT := by rw [List.getD_eq_getElem?_getD, List.getElem?_eq_getElem hi6]; exact List.getElem_mem _
      have LX := RdI.at hT (t := 5) underlying5 rfl hi6
      have nxt : ¬ extB b (endsT.getD i 0) → ∀ j, j < i + 1 → ¬ extB b (endsT.getD j 0) := fun hn j hj => by
        by_cases e : j = i
        · subst e; exact hn
        · exact hnx j (by omega)
      generalize endsT.getD i 0 = x at LX hxT nxt
      have hxB := endsT_B x hxT
      simp (disch := omega) only [wk, wt, wl, ↓reduceIte, Nat.reduceEqDiff, Nat.reduceAdd, wz, t3, t19, t20, t21, RdI.index hT underlying30 asz5 (q := .i64) (i := (i : Int)), Int.toNat_natCast, LX, build0 (P := prog) (t := 30) underlying30 asz5]
      have N4 := Keeps.new (Ch.wf K) 5 []
      have K4 := K.trans N4
      have O4 : Own prog h'.size (h'.new 5 []) 1 (.slice (some ⟨h'.size, 0, none⟩) 0 1) 0 [] := Own.new (Ch.wf K) (Nat.le_refl _) asz5 rfl
      obtain ⟨v5, h5, e5, O5, R5, C5, _⟩ := O4.appendRd (P := prog) (Ch.wf N4) (Ch.le N4) underlying30 underlying30 rfl elem5 fits5 (by decide) (hc'.keeps N4) (by omega)
      rw [e5]; clear e5
      have N5 := N4.step C5 fun b hb => hb.2
      simp only [wk, wt, wl, ↓reduceIte, Nat.reduceEqDiff, Nat.reduceAdd, wz]
      obtain ⟨v6, h6, e6, O6, C6, R6, _⟩ := O5.append1 (P := prog) (Ch.wf N5) (Ch.le N5) underlying30 elem5 fits5 (by decide) (by decide) (xs := [.int .u8 x]) rfl (by omega)
      rw [e6]; clear e6
      have N6 := N5.step C6 fun b hb => hb.2
      have K6' := K.trans N6
      have hd6' : RdI prog h6 .u8 v6 (b ++ [x]) := by
        have := O6.1
        simpa [RdI] using this
      have dl : (b ++ [x]).length = b.length + 1 := by simp
      have hdB : ∀ y, y ∈ b ++ [x] → isB y := fun y hy => by
        rcases List.mem_append.1 hy with hy | hy
        · exact hb y hy
        · simp only [List.mem_singleton] at hy; subst hy; exact hxB
      simp only [wk, wt, wl, ↓reduceIte, Nat.reduceEqDiff, Nat.reduceAdd, wz]
      refine (whole_ok hd6' hdB (by rw [dl]; omega)).use ?_
      rintro _ h7 ⟨rfl, K7⟩
      have K6 := K6'.trans K7
      have hd6 := hd6'.keeps K7
      have hc6 := (hc'.keeps N6).keeps K7
      have hT6 := (hT.keeps N6).keeps K7
      have L6 : abuiltin prog .len #[30] #[v6] = some (.int .i64 ((b.length + 1 : Nat) : Int)) := by
        rw [RdI.len hd6 underlying30, dl]
      cases hw : wholeZ (b ++ [x]) with
      | none =>
        have hno : ¬ ∃ r, wholeZ (b ++ [x]) = some (r, b.length + 1) := fun ⟨r, e⟩ => by rw [hw] at e; cases e
        simp only [wholeT, hw]
        simp only [wk, wt, wl, ↓reduceIte, Nat.reduceEqDiff, Nat.reduceAdd, wz, t3, L6]
        have t6 : True := trivial
        by_cases h3 : b.length + 1 < 4
        · have e3 : decide (((b.length + 1 : Nat) : Int) < 4) = true := decide_eq_true (by omega)
          simp only [wk, wt, wl, ↓reduceIte, Nat.reduceEqDiff, Nat.reduceAdd, wz, t3, t6, L6, e3]
          refine (ih (by rw [dl]; exact hk') hd6 hdB).use ?_
          rintro _ h9 ⟨rfl, K9⟩
          cases hbz : beginsZ (b ++ [x]) with
          | true =>
            have ex : extB b x := .inr ⟨h3, (of_decide_eq_true hbz).2, (of_decide_eq_true hbz).1⟩
            simp only [wk, wt, wl, ↓reduceIte, Nat.reduceEqDiff, Nat.reduceAdd, wz]
            rw [begins_true hxT ex]
            exact ⟨rfl, K6.trans K9⟩
          | false =>
            have nx : ¬ extB b x := fun e => by
              rcases e with e | ⟨_, e1, e2⟩
              · exact hno e
              · have : beginsZ (b ++ [x]) = true := decide_eq_true ⟨e2, e1⟩
                rw [hbz] at this; cases this
            have K := K6.trans K9
            simp (disch := omega) only [wk, wt, wl, ↓reduceIte, Nat.reduceEqDiff, Nat.reduceAdd, wz, t3, t19, t20, t21, IntWalk.i64_in, intOf_int]
            exact ⟨⟨K, hc6.keeps K9, hT6.keeps K9, i + 1, by simp, by omega, nxt nx⟩, by omega⟩
        · have e3 : decide (((b.length + 1 : Nat) : Int) < 4) = false := decide_eq_false (by omega)
          have nx : ¬ extB b x := fun e => by
            rcases e with e | ⟨e0, _⟩
            · exact hno e
            · exact h3 e0
          simp (disch := omega) only [wk, wt, wl, ↓reduceIte, Nat.reduceEqDiff, Nat.reduceAdd, wz, t3, t6, t19, t20, t21, L6, e3, IntWalk.i64_in, intOf_int]
          exact ⟨⟨K6, hc6, hT6, i + 1, by simp, by omega, nxt nx⟩, by omega⟩
      | some p =>
        obtain ⟨r, n⟩ := p
        by_cases hn : n = b.length + 1
        · subst hn
          have ex : extB b x := .inl ⟨r, hw⟩
          simp only [wholeT, hw]
          simp only [wk, wt, wl, ↓reduceIte, Nat.reduceEqDiff, Nat.reduceAdd, wz, t3, L6, decide_true]
          rw [begins_true hxT ex]
          exact ⟨rfl, K6⟩
        · have hno : ¬ ∃ r, wholeZ (b ++ [x]) = some (r, b.length + 1) := fun ⟨r, e⟩ => by rw [hw] at e; simp only [Option.some.injEq, Prod.mk.injEq] at e; exact hn e.2
          have e9 : decide ((n : Int) = ((b.length + 1 : Nat) : Int)) = false := decide_eq_false (by omega)
          simp only [wholeT, hw]
          simp only [wk, wt, wl, ↓reduceIte, Nat.reduceEqDiff, Nat.reduceAdd, wz, t3, L6, e9]
          have t6 : True := trivial
          by_cases h3 : b.length + 1 < 4
          · have e3 : decide (((b.length + 1 : Nat) : Int) < 4) = true := decide_eq_true (by omega)
            simp only [wk, wt, wl, ↓reduceIte, Nat.reduceEqDiff, Nat.reduceAdd, wz, t3, t6, L6, e3]
            refine (ih (by rw [dl]; exact hk') hd6 hdB).use ?_
            rintro _ h9 ⟨rfl, K9⟩
            cases hbz : beginsZ (b ++ [x]) with
            | true =>
              have ex : extB b x := .inr ⟨h3, (of_decide_eq_true hbz).2, (of_decide_eq_true hbz).1⟩
              simp only [wk, wt, wl, ↓reduceIte, Nat.reduceEqDiff, Nat.reduceAdd, wz]
              rw [begins_true hxT ex]
              exact ⟨rfl, K6.trans K9⟩
            | false =>
              have nx : ¬ extB b x := fun e => by
                rcases e with e | ⟨_, e1, e2⟩
                · exact hno e
                · have : beginsZ (b ++ [x]) = true := decide_eq_true ⟨e2, e1⟩
                  rw [hbz] at this; cases this
              have K := K6.trans K9
              simp (disch := omega) only [wk, wt, wl, ↓reduceIte, Nat.reduceEqDiff, Nat.reduceAdd, wz, t3, t19, t20, t21, IntWalk.i64_in, intOf_int]
              exact ⟨⟨K, hc6.keeps K9, hT6.keeps K9, i + 1, by simp, by omega, nxt nx⟩, by omega⟩
          · have e3 : decide (((b.length + 1 : Nat) : Int) < 4) = false := decide_eq_false (by omega)
            have nx : ¬ extB b x := fun e => by
              rcases e with e | ⟨e0, _⟩
              · exact hno e
              · exact h3 e0
            simp (disch := omega) only [wk, wt, wl, ↓reduceIte, Nat.reduceEqDiff, Nat.reduceAdd, wz, t3, t6, t19, t20, t21, L6, e3, IntWalk.i64_in, intOf_int]
            exact ⟨⟨K6, hc6, hT6, i + 1, by simp, by omega, nxt nx⟩, by omega⟩
    · have hf : beginsZ b = false := begins_false fun y hy => by
        obtain ⟨j, hj, e⟩ := List.getElem_of_mem hy
        have h6 : endsT.length = 6 := rfl
        have := hnx j (by omega)
        rw [List.getD_eq_getElem?_getD, List.getElem?_eq_getElem hj] at this
        rw [← e]; exact this
      simp only [wk, wt, wl, ↓reduceIte, Nat.reduceEqDiff, Nat.reduceAdd, wz]
      rw [hf]
      exact ⟨rfl, K⟩
theorem refNext_ok {v : Value} {b : List Int} {h : Heap} (hv : RdI prog h .u8 v b) (hb : ∀ x, x ∈ b → isB x) (hl : b.length ≤ 9223372036854775807) :
    ACalls prog 40 #[v] h (fun x h' => x = nextT b ∧ Keeps h h') := by
  refine acalls_of_W' func40 rfl (by kernel_rfl) (by kernel_rfl) (by simp [ntmps40]) ?_
  intro H
  simp only [wk, wt, wl, ↓reduceIte, Nat.reduceEqDiff, Nat.reduceAdd, wz]
  refine (whole_ok hv hb hl).use ?_
  rintro _ h2 ⟨rfl, K2⟩
  cases hw : wholeZ b with
  | some p =>
    have hn : nextZ b = some p := by
      simp only [wholeZ] at hw
      split at hw
      · split at hw
        · cases hw
        · rename_i h1 _; rw [h1]; exact hw
      · cases hw
    simp only [wholeT, hw, nextT, hn]
    simp only [wk, wt, wl, ↓reduceIte, Nat.reduceEqDiff, Nat.reduceAdd, wz]
    exact K2
  | none =>
    simp only [wholeT, hw]
    simp only [wk, wt, wl, ↓reduceIte, Nat.reduceEqDiff, Nat.reduceAdd, wz, RdI.len (hv.keeps K2) underlying30]
    by_cases h0 : b = []
    · subst h0
      have d0 : decide (((([] : List Int)).length : Int) = 0) = true := rfl
      simp only [wk, wt, wl, ↓reduceIte, Nat.reduceEqDiff, Nat.reduceAdd, wz, d0]
      exact ⟨rfl, K2⟩
    · have d0 : decide ((b.length : Int) = 0) = false := decide_eq_false (by
        intro e
        exact h0 (List.eq_nil_of_length_eq_zero (by omega)))
      simp only [wk, wt, wl, ↓reduceIte, Nat.reduceEqDiff, Nat.reduceAdd, wz, d0]
      refine (begins_ok 4 (by omega) (hv.keeps K2) hb).use ?_
      rintro _ h3 ⟨rfl, K3⟩
      cases hn : nextZ b with
      | none =>
        have e : beginsZ b = true := decide_eq_true ⟨h0, hn⟩
        simp only [nextT, hn]
        simp only [wk, wt, wl, ↓reduceIte, Nat.reduceEqDiff, Nat.reduceAdd, wz, e]
        exact K2.trans K3
      | some p =>
        have e : beginsZ b = false := decide_eq_false fun e => by rw [hn] at e; cases e.2
        have hp : p = (65533, 1) := by
          simp only [wholeZ, hn] at hw
          split at hw
          · assumption
          · cases hw
        subst hp
        simp only [nextT, hn]
        simp only [wk, wt, wl, ↓reduceIte, Nat.reduceEqDiff, Nat.reduceAdd, wz, e]
        exact ⟨rfl, K2.trans K3⟩
end Go.Proofs.YthmpaddhmgnkbaaDoor.Am
end
section
/- Bytes that are fed: what comes of them, in plain terms; no program in sight. -/
set_option linter.unusedSimpArgs false
set_option linter.unusedVariables false
set_option maxRecDepth 20000
set_option maxHeartbeats 4000000
namespace Go.Proofs.YthmpaddhmgnkbaaDoor.Am
open Go Go.RowKit Go.Proofs.Tryd
inductive Fed : List Int → List Int → List Int → Prop
  | done {b : List Int} (h : nextZ b = none) : Fed b [] b
  | step {b : List Int} {r : Int} {n : Nat} {l s : List Int} (h : nextZ b = some (r, n)) (t : Fed (b.drop n) l s) : Fed b (r :: l) s
theorem Fed.det {b l s : List Int} (H : Fed b l s) : ∀ {l' s' : List Int}, Fed b l' s' → l = l' ∧ s = s' := by
  induction H with
  | done h =>
    intro l' s' G
    cases G with
    | done g => exact ⟨rfl, rfl⟩
    | step g _ => rw [h] at g; cases g
  | step h t ih =>
    intro l' s' G
    cases G with
    | done g => rw [h] at g; cases g
    | step g u =>
      rw [h] at g
      simp only [Option.some.injEq, Prod.mk.injEq] at g
      obtain ⟨rfl, rfl⟩ := g
      obtain ⟨e1, e2⟩ := ih u
      exact ⟨by rw [e1], e2⟩
theorem Fed.app {a l s b : List Int} (H : Fed a l s) : ∀ {l' s' : List Int}, Fed (s ++ b) l' s' → Fed (a ++ b) (l ++ l') s' := by
  induction H with
  | done h => intro l' s' G; exact G
  | @step a r n l s h t ih =>
    intro l' s' G
    have hl := nextZ_le h
    refine .step (nextZ_app h) ?_
    rw [List.drop_append_of_le_length hl.2.1]
    exact ih G
theorem Fed.bound {b l s : List Int} (H : Fed b l s) : l.length + s.length ≤ b.length ∧ s.length ≤ 3 ∧ (∀ x, x ∈ s → x ∈ b) ∧ nextZ s = none := by
  induction H with
  | done h => exact ⟨by simp, (nextZ_none h).1, fun x hx => hx, h⟩
  | step h t ih =>
    have hl := nextZ_le h
    obtain ⟨h1, h2, h3, h4⟩ := ih
    simp only [List.length_drop, List.length_cons] at h1 ⊢
    exact ⟨by omega, h2, fun x hx => List.mem_of_mem_drop (h3 x hx), h4⟩
theorem Fed.enc {b l s : List Int} (H : Fed b l s) : ∀ a : List Int, Fed (encL a ++ b) (a.map fixR ++ l) s
  | [] => H
  | r :: a => by
    have h := nextZ_enc (fixR_valid (r := r)) (encL a ++ b)
    have e : encL (r :: a) ++ b = encV (fixR r) ++ (encL a ++ b) := by simp [encL, encR]
    rw [e]
    refine .step h ?_
    rw [List.drop_left]
    exact H.enc a
end Go.Proofs.YthmpaddhmgnkbaaDoor.Am
end
section
/- A terminal in plain terms: what each byte does; no program in sight. -/
set_option linter.unusedSimpArgs false
set_option linter.unusedVariables false
set_option maxHeartbeats 4000000
namespace Go.Proofs.YthmpaddhmgnkbaaDoor.Am
open Go Go.RowKit Go.Proofs.Tryd
def imax (x y : Int) : Int := if x < y then y else x
def imin (x y : Int) : Int := if y < x then y else x
theorem imax_spec (x y : Int) : x ≤ imax x y ∧ y ≤ imax x y ∧ (imax x y = x ∨ imax x y = y) := by unfold imax; split <;> omega
theorem imin_spec (x y : Int) : imin x y ≤ x ∧ imin x y ≤ y ∧ (imin x y = x ∨ imin x y = y) := by unfold imin; split <;> omega
/-- A cell: its text, its attribute, the left half of a wide one. -/
structure Cel where
  tx : List Int
  ar : Int
  wd : Bool
deriving DecidableEq
def bl (a : Int) : Cel := ⟨[32], a, false⟩
structure TX where
  rows : Int
  cols : Int
  cells : List Cel
  row : Int
  col : Int
  attr : Int
  hid : Bool
  last : Option Nat
  st : Nat
  seq : List Int
  held : List Int
def clampZ (x n : Int) : Int := imin (imax x 0) (n - 1)
def sizeR (r : Int) : Int := imin (imax r 2) 500
def sizeC (c : Int) : Int := imin (imax c 2) 1000
def blankL (r c : Int) : List Cel := List.replicate (sizeR r * sizeC c).toNat (bl 0)
def newX (r c : Int) : TX := ⟨sizeR r, sizeC c, blankL r c, 0, 0, 0, false, none, 0, [], []⟩
def resizeX (X : TX) (r c : Int) : TX := { X with rows := sizeR r, cols := sizeC c, cells := blankL r c, row := 0, col := 0, last := none }
def moveX (X : TX) (r c : Int) : TX := { X with row := clampZ r X.rows, col := clampZ c X.cols }
def setB (l : List Cel) (f t : Nat) : List Cel := l.mapIdx fun i c => if f ≤ i ∧ i < t then bl 0 else c
def wipeL (l : List Cel) (f t : Nat) : List Cel :=
  if f < t then setB l (if (l.getD f (bl 0)).tx = [] then f - 1 else f) (if (l.getD (t - 1) (bl 0)).wd = true then t + 1 else t) else l
def putAt (X : TX) (r : Int) (w : Int) : TX :=
  let col := imin X.col (X.cols - w)
  let i := (X.row * X.cols + col).toNat
  let l := (wipeL X.cells i (i + w.toNat)).set i ⟨[r], X.attr, decide (w = 2)⟩
  let l := if w = 2 then l.set (i + 1) ⟨[], X.attr, false⟩ else l
  { X with cells := l, last := some i, col := clampZ (col + w) X.cols }
def putX (X : TX) (r : Int) : TX :=
  if showL r ≠ [r] then { X with last := none }
  else if widthZ r = 0 then
    match X.last with
    | some i => let c := X.cells.getD i (bl 0); if c.tx.length ≤ 2 then { X with cells := X.cells.set i { c with tx := c.tx ++ [r] } } else X
    | none => X
  else putAt X r (widthZ r)
def numsGo (l : List Int) (n : Int) : List Int → Option (List Int)
  | [] => some (l ++ [n])
  | x :: r => if x = 59 then numsGo (l ++ [n]) 0 r else if 48 ≤ x ∧ x ≤ 57 then numsGo l (imin (n * 10 + (x - 48)) 9999) r else none
def eraseX (X : TX) (how : Int) (f t : Int) : TX :=
  let at_ := X.row * X.cols + X.col
  if how = 0 then { X with cells := wipeL X.cells at_.toNat t.toNat }
  else if how = 1 then { X with cells := wipeL X.cells f.toNat (at_ + 1).toNat }
  else if how = 2 then { X with cells := wipeL X.cells f.toNat t.toNat }
  else X
def attrL (a : Int) : List Int → Int
  | [] => a
  | x :: r => attrL (if x = 0 then 0 else if x = 7 then 1 else a) r
def doX (X : TX) (l : List Int) (b : Int) : TX :=
  let n := imax (l.getD 0 0) 1
  let m := if 1 < l.length then imax (l.getD 1 0) 1 else 1
  if b = 104 ∨ b = 108 then (if 25 ∈ l then { X with hid := decide (b = 108) } else X)
  else if b = 109 then { X with attr := attrL X.attr l }
  else if b = 72 then moveX X (n - 1) (m - 1)
  else if b = 65 then moveX X (X.row - n) X.col
  else if b = 66 then moveX X (X.row + n) X.col
  else if b = 67 then moveX X X.row (X.col + n)
  else if b = 68 then moveX X X.row (X.col - n)
  else if b = 71 then moveX X X.row (n - 1)
  else if b = 74 then eraseX X (l.getD 0 0) 0 X.cells.length
  else if b = 75 then eraseX X (l.getD 0 0) (X.row * X.cols) ((X.row + 1) * X.cols)
  else X
def asksB (s : List Int) : Bool := decide (s.head? = some 63)
def seqX (X : TX) (s : List Int) (b : Int) : TX :=
  match numsGo [] 0 (if asksB s = true then s.tail else s) with
  | none => X
  | some l => if asksB s = decide (b = 104 ∨ b = 108) then doX X l b else X
def fedN : Nat → List Int → List Int × List Int
  | 0, b => ([], b)
  | k + 1, b => match nextZ b with
    | none => ([], b)
    | some (r, n) => (r :: (fedN k (b.drop n)).1, (fedN k (b.drop n)).2)
def ctlX (X : TX) (b : Int) : TX :=
  if b = 27 then { X with st := 1 }
  else if b = 13 then { X with col := 0 }
  else if b = 10 then moveX X (X.row + 1) X.col
  else if b = 8 then moveX X X.row (X.col - 1)
  else X
def flushX (X : TX) : TX := { (List.replicate X.held.length (65533 : Int)).foldl putX X with held := [], last := none }
def feedX (X : TX) (b : Int) : TX := { (fedN (X.held.length + 1) (X.held ++ [b])).1.foldl putX X with held := (fedN (X.held.length + 1) (X.held ++ [b])).2 }
def stepX (X : TX) (b : Int) : TX :=
  if X.st = 1 then (if b = 91 then { X with st := 2, seq := [] } else { X with st := 0 })
  else if X.st = 2 then
    (if 32 ≤ b ∧ b ≤ 63 then (if X.seq.length < 32 then { X with seq := X.seq ++ [b] } else X)
     else if 64 ≤ b ∧ b < 127 then { seqX X X.seq b with st := 0 } else { X with st := 0 })
  else if 32 ≤ b ∧ b ≠ 127 then feedX X b else ctlX (flushX X) b
def writeX (X : TX) (b : List Int) : TX := b.foldl stepX X
theorem writeX_app {X : TX} {a b : List Int} : writeX X (a ++ b) = writeX (writeX X a) b := by simp [writeX]
theorem nextZ_pos {b : List Int} {r : Int} {n : Nat} (h : nextZ b = some (r, n)) : 1 ≤ n ∧ n ≤ b.length := ⟨(nextZ_le h).1, (nextZ_le h).2.1⟩
theorem fedN_fed : ∀ (k : Nat) (b : List Int), b.length ≤ k → Fed b (fedN k b).1 (fedN k b).2
  | 0, b, h => by
    have : b = [] := List.length_eq_zero_iff.1 (by omega)
    subst this
    exact .done rfl
  | k + 1, b, h => by
    cases e : nextZ b with
    | none => simp only [fedN, e]; exact .done e
    | some x =>
      obtain ⟨r, n⟩ := x
      have hp := nextZ_pos e
      simp only [fedN, e]
      exact .step e (fedN_fed k (b.drop n) (by rw [List.length_drop]; omega))
end Go.Proofs.YthmpaddhmgnkbaaDoor.Am
end
section
/- A terminal's memory: cells in a row, texts of their own. -/
set_option linter.unusedSimpArgs false
set_option linter.unusedVariables false
set_option maxHeartbeats 4000000
set_option maxRecDepth 20000
namespace Go.Proofs.YthmpaddhmgnkbaaDoor.Am
open Go Go.RowKit Go.Proofs.Tryd
def pt (b : Nat) : Value := .pointer (some ⟨b, 0, none⟩)
abbrev PC := Value × Cel
def cC (p : PC) : List Value := [p.1, .int .i64 p.2.ar, .bool p.2.wd]
theorem cC_len : ∀ p, (cC p).length = 3 := fun _ => rfl
/-- Not of the memory that is written. -/
def Off (Fs Ms : Nat → Prop) (n : Nat) : Prop := Fs n ∧ ¬ Ms n
/-- A grid's cells: their row (of the families Ms), their texts (of others). -/
structure GP (h : Heap) (Fs Ms : Nat → Prop) (cv : Value) (l : List Cel) (ps : List PC) : Prop where
  eq : ps.map Prod.snd = l
  own : OwnR prog h 3 cv ps.length (ps.flatMap cC)
  rd : ∀ p, p ∈ ps → RdI prog h .i32 p.1 p.2.tx
  off : ∀ p, p ∈ ps → Fam h (Off Fs Ms) p.1
section
variable {h h' : Heap} {Fs Ms D : Nat → Prop} {cv tv : Value} {l : List Cel} {ps : List PC} {i : Nat} {c : Cel} {p : PC}
theorem GP.length (G : GP h Fs Ms cv l ps) : ps.length = l.length := by rw [← G.eq, List.length_map]
theorem GP.len (G : GP h Fs Ms cv l ps) : abuiltin prog .len #[22] #[cv] = some (.int .i64 l.length) := by
  rw [← G.length]; exact G.own.1.len underlying22
theorem GP.at (G : GP h Fs Ms cv l ps) (hi : i < l.length) : ∃ p, ps[i]? = some p ∧ l[i]? = some p.2 ∧ p ∈ ps := by
  have hi' : i < ps.length := by rw [G.length]; exact hi
  refine ⟨ps[i], List.getElem?_eq_getElem hi', ?_, List.getElem_mem hi'⟩
  rw [← G.eq, List.getElem?_map, List.getElem?_eq_getElem hi']; rfl
theorem GP.index (G : GP h Fs Ms cv l ps) {z : Int} (h0 : 0 ≤ z) (h1 : z < l.length) : aindexAddr prog 22 cv (.int .i64 z) = some (.pointer (some (eltA cv 3 z.toNat))) :=
  Rd.index G.own.1 underlying22 asz45 h0 (by rw [G.length]; exact h1)
theorem GP.rs (G : GP h Fs Ms cv l ps) : RS prog h 3 cC cv ps := G.own.1
theorem GP.loads (G : GP h Fs Ms cv l ps) (hp : ps[i]? = some p) :
    aload prog h 43 ⟨(eltA cv 3 i).block, (eltA cv 3 i).off + 0, none⟩ = some p.1 ∧ aload prog h 3 ⟨(eltA cv 3 i).block, (eltA cv 3 i).off + 1, none⟩ = some (.int .i64 p.2.ar) ∧
    aload prog h 4 ⟨(eltA cv 3 i).block, (eltA cv 3 i).off + 2, none⟩ = some (.bool p.2.wd) ∧ aload prog h 45 (eltA cv 3 i) = some (.agg #[p.1, .int .i64 p.2.ar, .bool p.2.wd]) ∧ aload prog h 43 (eltA cv 3 i) = some p.1 := by
  have R := G.rs
  have h0 := R.fld cC_len (t := 43) underlying43 rfl hp (j := 0) (by decide)
  exact ⟨h0, R.fld cC_len underlying3 rfl hp (by decide), R.fld cC_len underlying4 rfl hp (by decide), R.agg cC_len underlying45 rfl asz45 hp, by rw [eltA_eta] at h0; exact h0⟩
/-- Behind what changes none of its row. -/
theorem GP.ch (G : GP h Fs Ms cv l ps) (C : Ch D h h') (hD : ∀ y, D y → Rg Ms h y) (hcv : ∀ y, blkOf cv = some y → ¬ D y) : GP h' Fs Ms cv l ps :=
  ⟨G.eq, Ch.ownR C G.own hcv, fun p hp => Ch.rd C (G.rd p hp) fun y hy d => (G.off p hp).apart (Gs := Ms) (fun n a b => a.2 b) y hy (hD y d), fun p hp => (G.off p hp).ch C fun z hz => ((G.rd p hp).blk_lt hz).1⟩
theorem GP.keeps (G : GP h Fs Ms cv l ps) (K : Keeps h h') : GP h' Fs Ms cv l ps := G.ch K (fun y e => e.elim) fun y _ e => e
theorem GP.lt (G : GP h Fs Ms cv l ps) : ∀ y, blkOf cv = some y → y < h.size := fun y hy => (G.own.1.blk_lt hy).1
theorem GP.set (H : Wf h) (G : GP h Fs Ms cv l ps) (hM : Fam h Ms cv) (hi : i < l.length) (ht : RdI prog h .i32 tv c.tx) (ho : Fam h (Off Fs Ms) tv) :
    ∃ h', storeV prog h 45 (.pointer (some (eltA cv 3 i))) (.agg #[tv, .int .i64 c.ar, .bool c.wd]) = some (undef, h') ∧ GP h' Fs Ms cv (l.set i c) (ps.set i (tv, c)) ∧ Ch (FamV h cv) h h' ∧ h'.size = h.size := by
  have hi' : i < ps.length := by rw [G.length]; exact hi
  obtain ⟨h', e, O, C, z, _⟩ := G.own.storeA (P := prog) H (t := 45) (w := .agg #[tv, .int .i64 c.ar, .bool c.wd]) asz45 (by simp [Value.cells]) (by simp [Value.cells, ht.one, one_int, one_bool]) hi'
  have hcells : (Value.agg #[tv, .int .i64 c.ar, .bool c.wd]).cells.toList = cC (tv, c) := by simp [Value.cells, cC]
  have hls : ps.length = (ps.set i (tv, c)).length := List.length_set.symm
  rw [hcells, fm_over cC_len (x := (tv, c)) hi', hls] at O
  have ap : ∀ v xs, RdI prog h .i32 v xs → Fam h (Off Fs Ms) v → RdI prog h' .i32 v xs ∧ Fam h' (Off Fs Ms) v := fun v xs R F =>
    ⟨Ch.rd C R fun y hy d => F.apart (Gs := Ms) (fun n a b => a.2 b) y hy (FamV.rg hM d), F.ch C fun z hz => (R.blk_lt hz).1⟩
  have key : ∀ p, p ∈ ps.set i (tv, c) → RdI prog h' .i32 p.1 p.2.tx ∧ Fam h' (Off Fs Ms) p.1 := fun p hp => by
    rcases List.mem_or_eq_of_mem_set hp with hp | rfl
    · exact ap _ _ (G.rd p hp) (G.off p hp)
    · exact ap _ _ ht ho
  exact ⟨h', e, ⟨by rw [List.map_set, G.eq], O, fun p hp => (key p hp).1, fun p hp => (key p hp).2⟩, C, z⟩
end
end Go.Proofs.YthmpaddhmgnkbaaDoor.Am
end
section
/- A feeder of bytes: contracts of utf.NewFeeder, Feed, Held, Flush and Decode, by walks. -/
set_option linter.unusedSimpArgs false
set_option linter.unusedVariables false
set_option maxRecDepth 20000
set_option maxHeartbeats 4000000
namespace Go.Proofs.YthmpaddhmgnkbaaDoor.Am
open Go Go.RowKit Go.Proofs.Tryd
end Go.Proofs.YthmpaddhmgnkbaaDoor.Am
end
section
/- The program's terminal as it lies in memory, step by step; contracts of move, back, Attr, Shown, Waits, by walks. -/
set_option linter.unusedSimpArgs false
set_option linter.unusedVariables false
set_option maxHeartbeats 4000000
set_option maxRecDepth 20000
namespace Go.Proofs.YthmpaddhmgnkbaaDoor.Am
open Go Go.RowKit Go.Proofs.Tryd
theorem abuiltin_max {k : IntKind} {ts : Array TypeId} {x y : Int} : abuiltin prog .max ts #[.int k x, .int k y] = some (.int k (if x < y then y else x)) := by simp [abuiltin, amm]
theorem abuiltin_min {k : IntKind} {ts : Array TypeId} {x y : Int} : abuiltin prog .min ts #[.int k x, .int k y] = some (.int k (if y < x then y else x)) := by simp [abuiltin, amm]
theorem mxV {k : IntKind} {ts : Array TypeId} {x y : Int} : abuiltin prog .max ts #[.int k x, .int k y] = some (.int k (imax x y)) := abuiltin_max
theorem mnV {k : IntKind} {ts : Array TypeId} {x y : Int} : abuiltin prog .min ts #[.int k x, .int k y] = some (.int k (imin x y)) := abuiltin_min
section
variable {h h' : Heap} {Fs Ms D : Nat → Prop} {gs : List (Value × List Int)} {t f : Nat} {nv cv sv rv tv : Value} {gr : Bool} {X X' : TX} {ps ps' : List PC} {l : List Cel}
theorem GP.more (H : Wf h) (G : GP h Fs Ms cv l ps) {Ms' : Nat → Prop} (hm : ∀ n, n < h.size → Ms' n → Ms n) : GP h Fs Ms' cv l ps :=
  ⟨G.eq, G.own, G.rd, fun p hp z k hz g => ⟨(G.off p hp z k hz g).1, fun m => (G.off p hp z k hz g).2 (hm _ (by have := H.2 z k g; have := H.lt g; omega) m)⟩⟩
theorem Var.alone {b x : Nat} {cs : List Value} (V : Var h b cs) {k k' : Blk} (hx : x ≠ b) (g : h.get x = some k') (gb : h.get b = some k) : k'.fam ≠ k.fam := by
  obtain ⟨k0, g0, _, _, _, h5, h6⟩ := V
  rw [g0] at gb; cases gb
  rw [h5]; exact h6 x k' hx g
end
structure Inv (X : TX) : Prop where
  r : 2 ≤ X.rows ∧ X.rows ≤ 500
  c : 2 ≤ X.cols ∧ X.cols ≤ 1000
  n : (X.cells.length : Int) = X.rows * X.cols
  row : 0 ≤ X.row ∧ X.row < X.rows
  col : 0 ≤ X.col ∧ X.col < X.cols
  emp : ∀ (i : Nat) (c : Cel), X.cells[i]? = some c → c.tx = [] → ∃ (j : Nat) (d : Cel), i = j + 1 ∧ X.cells[j]? = some d ∧ d.wd = true ∧ (i : Int) % X.cols ≠ 0
  wid : ∀ (i : Nat) (c : Cel), X.cells[i]? = some c → c.wd = true → ∃ d : Cel, X.cells[i + 1]? = some d ∧ d.tx = []
  nw : ∀ (i : Nat) (c : Cel), X.cells[i]? = some c → c.tx = [] → c.wd = false
  last : ∀ i : Nat, X.last = some i → ∃ c : Cel, X.cells[i]? = some c ∧ c.tx ≠ []
end Go.Proofs.YthmpaddhmgnkbaaDoor.Am
end
section
/- The program's terminal: contracts of back, escaped, Attr, Shown, Waits, blank, Blank, by walks. -/
set_option linter.unusedSimpArgs false
set_option linter.unusedVariables false
set_option maxHeartbeats 4000000
set_option maxRecDepth 20000
namespace Go.Proofs.YthmpaddhmgnkbaaDoor.Am
open Go Go.RowKit Go.Proofs.Tryd
end Go.Proofs.YthmpaddhmgnkbaaDoor.Am
end
section
/- A blank grid: contracts of grid.blank, grid.Blank, by walks. -/
set_option linter.unusedSimpArgs false
set_option linter.unusedVariables false
set_option maxHeartbeats 4000000
set_option maxRecDepth 20000
namespace Go.Proofs.YthmpaddhmgnkbaaDoor.Am
open Go Go.RowKit Go.Proofs.Tryd
theorem build_cell2 {o : Option Addr} {n c : Nat} {a : Int} : abuild prog 45 #[(0, .slice o n c), (1, .int .i64 a)] = some (.agg #[.slice o n c, .int .i64 a, .bool false]) := by
  simp [abuild, wt, aplaces, Instr.fill, Value.cells]
theorem build_cell1 {o : Option Addr} {n c : Nat} : abuild prog 45 #[(0, .slice o n c)] = some (.agg #[.slice o n c, .int .i64 0, .bool false]) := by
  simp [abuild, wt, aplaces, Instr.fill, Value.cells]
theorem rdI_new {h : Heap} (H : Wf h) {xs : List Int} {c : Nat} : RdI prog (h.new 21 (xs.map (Value.int .i32))) .i32 (.slice (some ⟨h.size, 0, none⟩) xs.length c) xs :=
  Rd.new H asz21 (by simp)
theorem blk_new {x n c : Nat} : ∀ z, blkOf (.slice (some ⟨x, 0, none⟩) n c) = some z → x ≤ z := fun z e => by cases e; exact Nat.le_refl _
theorem blank_ok {h : Heap} {a : Int} : ACalls prog 52 #[.int .i64 a] h (fun y h' => ∃ tv, y = .agg #[tv, .int .i64 a, .bool false] ∧ RdI prog h' .i32 tv [32] ∧ (∀ z, blkOf tv = some z → h.size ≤ z) ∧ Keeps h h') := by
  refine acalls_of_W' func52 rfl (by kernel_rfl) (by kernel_rfl) (by simp [ntmps52]) ?_
  intro H
  have N1 := Keeps.new H 45 [.slice none 0 0, .int .i64 0, .bool false]
  have V1 := Var.new (e := 45) H (cs := [.slice none 0 0, .int .i64 0, .bool false])
  have N2 := Keeps.new (Ch.wf N1) 21 [.int .i32 32]
  have R2 : RdI prog ((h.new 45 [.slice none 0 0, .int .i64 0, .bool false]).new 21 [.int .i32 32]) .i32 (.slice (some ⟨h.size + 1, 0, none⟩) 1 2) [32] := rdI_new (Ch.wf N1) (xs := [32])
  have V2 := Keeps.var (Ch.wf N1) N2 V1
  simp only [wk, wt, wl, ↓reduceIte, Nat.reduceEqDiff, Nat.reduceAdd, wz, new_size, build_cell2]
  generalize (h.new 45 [.slice none 0 0, .int .i64 0, .bool false]).new 21 [.int .i32 32] = h2 at *
  obtain ⟨h3, e3, V3, C3, z3⟩ := V2.store (P := prog) (t := 45) (v := .agg #[.slice (some ⟨h.size + 1, 0, none⟩) 1 2, .int .i64 a, .bool false]) (i := 0) (Ch.wf N2) asz45 (by simp [Value.cells]) (by simp [Value.cells, one])
  simp only [Value.cells, over_all (xs := [.slice none 0 0, .int .i64 0, .bool false]) (vs := [.slice (some ⟨h.size + 1, 0, none⟩) 1 2, .int .i64 a, .bool false]) rfl] at V3
  have L3 := V3.loadA (P := prog) (t := 45) underlying45 rfl asz45
  simp only [wk, wt, wl, ↓reduceIte, Nat.reduceEqDiff, Nat.reduceAdd, wz, e3, L3]
  exact ⟨_, rfl, Ch.rd C3 R2 fun y hy e => by have := blk_new y hy; omega, fun z hz => Nat.le_of_succ_le (blk_new z hz), (N1.trans N2).step C3 fun y e => by omega⟩
def zC : PC := (.slice none 0 0, ⟨[], 0, false⟩)
theorem zeroRow (n : Nat) : (firstOf (n * 3) #[.slice none 0 0, .int .i64 0, .bool false]).toList = (List.replicate n zC).flatMap cC := by
  refine List.ext_getElem? fun j => ?_
  rcases Nat.lt_or_ge j (n * 3) with hj | hj
  · have hd : j / 3 < n := by omega
    have e : j / 3 * 3 + j % 3 = j := by omega
    have hR := fm_at cC_len (l := List.replicate n zC) (i := j / 3) (j := j % 3) (x := zC) (by simp [hd]) (by omega)
    rw [e] at hR
    rw [hR]
    have hm : j % 3 = 0 ∨ j % 3 = 1 ∨ j % 3 = 2 := by omega
    rcases hm with hm | hm | hm <;> simp [firstOf, hj, hm, cC, zC]
  · rw [List.getElem?_eq_none (by simp [firstOf]; omega), List.getElem?_eq_none (by rw [fm_len cC_len]; simp; omega)]
theorem mkCells {h : Heap} {n : Nat} (hn : n ≤ 500000) : amakeSlice prog h 22 (.int .i64 n) (.int .i64 n) = some (.slice (some ⟨h.size, 0, none⟩) n (n + 1), h.new 45 ((List.replicate n zC).flatMap cC)) := by
  rw [← zeroRow]
  obtain ⟨f1, f2, f3⟩ := fits45
  simp only [amakeSlice, underlying22, elem45, azero45, f2, f3]
  rw [if_pos ⟨by omega, by omega, by omega, by omega, by simp [Value.cells, one], rfl⟩]
  simp [Value.cells]
theorem replAt {i n : Nat} {a b : Cel} (hi : i < n) : (List.replicate i a ++ List.replicate (n - i) b).set i a = List.replicate (i + 1) a ++ List.replicate (n - (i + 1)) b := by
  refine List.ext_getElem? fun j => ?_
  simp only [List.getElem?_set, List.getElem?_append, List.getElem?_replicate, List.length_append, List.length_replicate]
  (repeat' split) <;> first | rfl | (exfalso; omega) | omega
/-- The blank grid that is made. -/
theorem blankG_ok {h : Heap} {r c : Int} : ACalls prog 27 #[.int .i64 r, .int .i64 c] h (fun y h' => ∃ cb ps, y = .agg #[.int .i64 (sizeR r), .int .i64 (sizeC c), .slice (some ⟨cb, 0, none⟩) (blankL r c).length ((blankL r c).length + 1), .int .i64 0, .int .i64 0] ∧
    GP h' (fun n => h.size ≤ n) (fun n => n = cb) (.slice (some ⟨cb, 0, none⟩) (blankL r c).length ((blankL r c).length + 1)) (blankL r c) ps ∧ Fam h' (fun n => n = cb) (.slice (some ⟨cb, 0, none⟩) (blankL r c).length ((blankL r c).length + 1)) ∧ h.size ≤ cb ∧ Keeps h h') := by
  refine acalls_of_W' func27 rfl (by kernel_rfl) (by kernel_rfl) (by simp [ntmps27]) ?_
  intro H
  have hR : 2 ≤ sizeR r ∧ sizeR r ≤ 500 := by have M1 := imax_spec r 2; have M2 := imin_spec (imax r 2) 500; unfold sizeR; omega
  have hC : 2 ≤ sizeC c ∧ sizeC c ≤ 1000 := by have M1 := imax_spec c 2; have M2 := imin_spec (imax c 2) 1000; unfold sizeC; omega
  obtain ⟨n, hn⟩ : ∃ n : Nat, sizeR r * sizeC c = (n : Int) := ⟨(sizeR r * sizeC c).toNat, by have := Int.mul_nonneg (show 0 ≤ sizeR r by omega) (show 0 ≤ sizeC c by omega); omega⟩
  have hnn : n ≤ 500000 := by
    have h1 : sizeR r * sizeC c ≤ 500 * 1000 := Int.mul_le_mul (by omega) (by omega) (by omega) (by omega)
    omega
  have hbl : blankL r c = List.replicate n (bl 0) := by unfold blankL; rw [hn, Int.toNat_natCast]
  rw [hbl]
  simp only [List.length_replicate]
  have hsr : imin (imax r 2) 500 = sizeR r := rfl
  have hsc : imin (imax c 2) 1000 = sizeC c := rfl
  have wm : IntKind.i64.wrap (sizeR r * sizeC c) = (n : Int) := by rw [hn]; exact IntWalk.i64_in _ (by omega)
  generalize sizeR r = R at *
  generalize sizeC c = C at *
  have N1 := Keeps.new H 24 [.int .i64 0, .int .i64 0, .slice none 0 0, .int .i64 0, .int .i64 0]
  have N2 := Keeps.new (Ch.wf N1) 24 [.int .i64 0, .int .i64 0, .slice none 0 0, .int .i64 0, .int .i64 0]
  have V2 := Var.new (e := 24) (Ch.wf N1) (cs := [.int .i64 0, .int .i64 0, .slice none 0 0, .int .i64 0, .int .i64 0])
  have U2 := Keeps.var (Ch.wf N1) N2 (Var.new (e := 24) H (cs := [.int .i64 0, .int .i64 0, .slice none 0 0, .int .i64 0, .int .i64 0]))
  simp only [new_size] at V2
  have bg : abuild prog 24 #[(0, .int .i64 R), (1, .int .i64 C)] = some (.agg #[.int .i64 R, .int .i64 C, .slice none 0 0, .int .i64 0, .int .i64 0]) := by simp [abuild, wt, aplaces, Instr.fill, Value.cells]
  simp only [wk, wt, wl, ↓reduceIte, Nat.reduceEqDiff, Nat.reduceAdd, wz, mxV, mnV, hsr, hsc, new_size, bg]
  have K2 := N1.trans N2
  generalize (h.new 24 [.int .i64 0, .int .i64 0, .slice none 0 0, .int .i64 0, .int .i64 0]).new 24 [.int .i64 0, .int .i64 0, .slice none 0 0, .int .i64 0, .int .i64 0] = h2 at *
  obtain ⟨h3, e3, V3, C3, z3⟩ := V2.store (P := prog) (t := 24) (v := .agg #[.int .i64 R, .int .i64 C, .slice none 0 0, .int .i64 0, .int .i64 0]) (i := 0) (Ch.wf N2) asz24 (by simp [Value.cells]) (by simp [Value.cells, one])
  simp only [Value.cells, over_all (xs := [.int .i64 0, .int .i64 0, .slice none 0 0, .int .i64 0, .int .i64 0]) (vs := [.int .i64 R, .int .i64 C, .slice none 0 0, .int .i64 0, .int .i64 0]) rfl] at V3
  have K3 := K2.step C3 fun y e => by omega
  have U3 := Ch.var (Ch.wf K2) C3 U2 (by omega)
  have L0 := V3.load1 (P := prog) (i := 0) (t := 3) underlying3 rfl
  have L1 := V3.load1 (P := prog) (i := 1) (t := 3) underlying3 rfl
  simp only [List.getElem?_cons_succ, List.getElem?_cons_zero] at L0 L1
  have N4 := Keeps.new (Ch.wf K3) 45 ((List.replicate n zC).flatMap cC)
  have K4 := K3.trans N4
  have O4 : OwnR prog (h3.new 45 ((List.replicate n zC).flatMap cC)) 3 (.slice (some ⟨h3.size, 0, none⟩) n (n + 1)) n ((List.replicate n zC).flatMap cC) := OwnR.new (Ch.wf K3) asz45 (by rw [fm_len cC_len]; simp)
  have F4 : Fam (h3.new 45 ((List.replicate n zC).flatMap cC)) (fun m => m = h3.size) (.slice (some ⟨h3.size, 0, none⟩) n (n + 1)) := fun z k hz g => by
    cases hz
    simp only at g
    rw [new_self] at g; cases g; rfl
  have V4 := Keeps.var (Ch.wf K3) N4 V3
  have U4 := Keeps.var (Ch.wf K3) N4 U3
  have hh3 : h.size + 1 < h3.size := V3.lt (Ch.wf K3)
  have hz4 : (h3.new 45 ((List.replicate n zC).flatMap cC)).size = h3.size + 1 := rfl
  obtain ⟨h5, e5, V5, C5, z5⟩ := V4.store1 (P := prog) (t := 22) (v := .slice (some ⟨h3.size, 0, none⟩) n (n + 1)) (i := 2) (Ch.wf K4) asz22 (by simp) rfl
  simp only [List.set_cons_succ, List.set_cons_zero] at V5
  have K5 := K4.step C5 fun y e => by omega
  have O5 := Ch.ownR C5 O4 fun y hy e => by have := blk_new y hy; omega
  have F5 := F4.ch C5 fun z hz => (O4.1.blk_lt hz).1
  have U5 := Ch.var (Ch.wf K4) C5 U4 (by omega)
  obtain ⟨cv, hcv⟩ : ∃ cv, Value.slice (some ⟨h3.size, 0, none⟩) n (n + 1) = cv := ⟨_, rfl⟩
  have hcb : blkOf cv = some h3.size := by rw [← hcv]; rfl
  rw [hcv] at O5 F5 V5 e5
  have L2 := fun {hh : Heap} {R C : Int} (V : Var hh (h.size + 1) [.int .i64 R, .int .i64 C, cv, .int .i64 0, .int .i64 0]) => V.load1 (P := prog) (i := 2) (t := 22) underlying22 rfl
  have LA := fun {hh : Heap} {R C : Int} (V : Var hh (h.size + 1) [.int .i64 R, .int .i64 C, cv, .int .i64 0, .int .i64 0]) => V.loadA (P := prog) (t := 24) underlying24 rfl asz24
  simp only [List.getElem?_cons_succ, List.getElem?_cons_zero] at L2
  simp only [wk, wt, wl, ↓reduceIte, Nat.reduceEqDiff, Nat.reduceAdd, wz, e3, L0, L1, wm, mkCells hnn, hcv, e5, L2 V5, O5.1.len underlying22]
  have G5 : GP h5 (fun m => h.size + 2 ≤ m) (fun m => m = h3.size) cv (List.replicate n ⟨[], 0, false⟩) (List.replicate n zC) := by
    refine ⟨by simp [zC], by rw [List.length_replicate]; exact O5, fun p hp => ?_, fun p hp => ?_⟩
    · obtain rfl := (List.mem_replicate.1 hp).2
      exact Rd.nil0
    · obtain rfl := (List.mem_replicate.1 hp).2
      exact Fam.nil
  refine W_loop (fun tm h' => Keeps h h' ∧ tm 4 = pt h.size ∧ tm 5 = pt (h.size + 1) ∧ tm 23 = .int .i64 n ∧ ∃ (i : Nat) (ps : List PC), tm 24 = .int .i64 i ∧ i ≤ n ∧ Var h' (h.size + 1) [.int .i64 R, .int .i64 C, cv, .int .i64 0, .int .i64 0] ∧ Var h' h.size [.int .i64 0, .int .i64 0, .slice none 0 0, .int .i64 0, .int .i64 0] ∧ Fam h' (fun m => m = h3.size) cv ∧ h3.size < h'.size ∧
      GP h' (fun m => h.size + 2 ≤ m) (fun m => m = h3.size) cv (List.replicate i (bl 0) ++ List.replicate (n - i) ⟨[], 0, false⟩) ps)
    (fun tm _ => (n - intOf (tm 24)).toNat) ⟨K5, (by first | rfl | (simp only [wk, wt, wl, ↓reduceIte, Nat.reduceEqDiff, Nat.reduceAdd, wz]; done) | (simp only [wk, wt, wl, ↓reduceIte, Nat.reduceEqDiff, Nat.reduceAdd, wz]; rfl)), (by first | rfl | (simp only [wk, wt, wl, ↓reduceIte, Nat.reduceEqDiff, Nat.reduceAdd, wz]; done) | (simp only [wk, wt, wl, ↓reduceIte, Nat.reduceEqDiff, Nat.reduceAdd, wz]; rfl)), (by first | rfl | (simp only [wk, wt, wl, ↓reduceIte, Nat.reduceEqDiff, Nat.reduceAdd, wz]; done) | (simp only [wk, wt, wl, ↓reduceIte, Nat.reduceEqDiff, Nat.reduceAdd, wz]; rfl)), 0, List.replicate n zC, (by first | rfl | (simp only [wk, wt, wl, ↓reduceIte, Nat.reduceEqDiff, Nat.reduceAdd, wz]; done) | (simp only [wk, wt, wl, ↓reduceIte, Nat.reduceEqDiff, Nat.reduceAdd, wz]; rfl)), by omega, V5, U5, F5, by omega, by simpa using G5⟩ ?_
  rintro tm h' ⟨K, t4, t5, t23, i, ps, t24, hi, V, U, F, hlt, G⟩
  simp only [wk, wt, wl, ↓reduceIte, Nat.reduceEqDiff, Nat.reduceAdd, wz, t4, t5, t23, t24]
  refine condK_dec (fun hd => ?_) (fun hd => ?_)
  · have hl : (List.replicate i (bl 0) ++ List.replicate (n - i) (⟨[], 0, false⟩ : Cel)).length = n := by simp; omega
    have IX := G.index (z := (i : Int)) (by omega) (by rw [hl]; omega)
    simp only [Int.toNat_natCast] at IX
    simp only [wk, wt, wl, ↓reduceIte, Nat.reduceEqDiff, Nat.reduceAdd, wz, t4, t5, t23, t24, pt]
    refine adraw_order [(0, false), (1, false), (2, false), (3, true), (4, false), (5, false)] mixed (by kernel_rfl) (by kernel_rfl) (by kernel_rfl) (by with_reducible repeat (first | exact PF_retK | refine PF_thenK ?_ | refine PF_blockK ?_)) ?_
    simp only [wk, wt, wl, ↓reduceIte, Nat.reduceEqDiff, Nat.reduceAdd, wz, dK_t, t5, pt, L2 V]
    refine (blank_ok (a := 0)).use ?_
    rintro _ h6 ⟨tv, rfl, R6, hz6, K6⟩
    have G6 := G.keeps K6
    have F6 := F.ch K6 fun z hz => by rw [hcb] at hz; cases hz; exact hlt
    have hle6 := Ch.le K6
    obtain ⟨h7, e7, G7, C7, z7⟩ := G6.set (c := bl 0) (Ch.wf K6) F6 (i := i) (by rw [hl]; omega) R6 ((Fam.freshK K6 hz6).mono fun m hm => ⟨by have := Ch.le K; omega, fun e => by omega⟩)
    have hcf : ∀ x cs, Var h6 x cs → x ≠ h3.size → ¬ FamV h6 cv x := fun x cs V hx => V.notFam fun e => by rw [hcb] at e; cases e; exact hx rfl
    have V6 := Keeps.var (Ch.wf K) K6 V
    have U6 := Keeps.var (Ch.wf K) K6 U
    have V7 := Ch.var (Ch.wf K6) C7 V6 (hcf _ _ V6 (by omega))
    have U7 := Ch.var (Ch.wf K6) C7 U6 (hcf _ _ U6 (by omega))
    have F7 := F6.ch C7 fun z hz => by rw [hcb] at hz; cases hz; omega
    have K7 := (K.trans K6).step C7 fun y d => by
      obtain ⟨k, g, f⟩ := FamV.rg F6 d
      have := (Ch.wf K6).2 y k g
      omega
    rw [replAt (show i < n by omega)] at G7
    simp only [bl] at e7
    refine ⟨fun _ => K6.reads (Ch.wf K), ?_⟩
    simp (disch := omega) only [wk, wt, wl, ↓reduceIte, Nat.reduceEqDiff, Nat.reduceAdd, wz, dK_t, t4, t5, t23, t24, IX, e7, IntWalk.i64_in, intOf_int]
    exact ⟨⟨K7, rfl, rfl, i + 1, _, by simp, by omega, V7, U7, F7, by omega, G7⟩, by omega⟩
  · obtain rfl : i = n := by omega
    simp only [Nat.sub_self, List.replicate_zero, List.append_nil] at G
    obtain ⟨h8, e8, U8, C8, z8⟩ := U.store (P := prog) (t := 24) (v := .agg #[.int .i64 R, .int .i64 C, cv, .int .i64 0, .int .i64 0]) (i := 0) (Ch.wf K) asz24 (by simp [Value.cells]) (by rw [← hcv]; simp [Value.cells, one])
    simp only [Value.cells, over_all (xs := [.int .i64 0, .int .i64 0, .slice none 0 0, .int .i64 0, .int .i64 0]) (vs := [.int .i64 R, .int .i64 C, cv, .int .i64 0, .int .i64 0]) rfl] at U8
    have UA := U8.loadA (P := prog) (t := 24) underlying24 rfl asz24
    simp only [wk, wt, wl, ↓reduceIte, Nat.reduceEqDiff, Nat.reduceAdd, wz, t4, t5, pt, LA V, e8, UA]
    have F8 := F.ch C8 fun z hz => by rw [hcb] at hz; cases hz; exact hlt
    have G8 : GP h8 (fun m => h.size ≤ m) (fun m => m = h3.size) cv (List.replicate i (bl 0)) ps := ⟨G.eq, Ch.ownR C8 G.own fun y hy e => by rw [hcb] at hy; cases hy; omega, fun p hp => Ch.rd C8 (G.rd p hp) fun y hy e => ?_, fun p hp => ((G.off p hp).ch C8 fun z hz => ((G.rd p hp).blk_lt hz).1).mono fun m hm => ⟨by have := hm.1; omega, hm.2⟩⟩
    · exact ⟨h3.size, ps, by rw [hcv], by rw [hcv]; exact G8, by rw [hcv]; exact F8, by omega, K.step C8 fun y e => by omega⟩
    · subst e
      obtain ⟨k, g, f⟩ := U.fam
      have := (G.off p hp _ k hy g).1
      omega
end Go.Proofs.YthmpaddhmgnkbaaDoor.Am
end
section
/- The program's terminal: contracts of New, Resize, by walks. -/
set_option linter.unusedSimpArgs false
set_option linter.unusedVariables false
set_option maxHeartbeats 4000000
set_option maxRecDepth 20000
namespace Go.Proofs.YthmpaddhmgnkbaaDoor.Am
open Go Go.RowKit Go.Proofs.Tryd
def boxV (P : Program) (h : Heap) (e : TypeId) (v : Value) : Option (Value × Heap) := match asz P e with | some _ => if v.cells.all one = true then some (.pointer (some ⟨h.size, 0, none⟩), h.new e v.cells.toList) else none | none => none
theorem aeff_box {P : Program} {h : Heap} {tm : Tm} {e : TypeId} {x : Operand} : aeff P tm h (.box e x) = boxV P h e (ev tm x) := rfl
end Go.Proofs.YthmpaddhmgnkbaaDoor.Am
end
section
/- The program's terminal: the contract of wipe, by a walk. -/
set_option linter.unusedSimpArgs false
set_option linter.unusedVariables false
set_option maxHeartbeats 4000000
set_option maxRecDepth 20000
namespace Go.Proofs.YthmpaddhmgnkbaaDoor.Am
open Go Go.RowKit Go.Proofs.Tryd
theorem setB_len {l : List Cel} {f t : Nat} : (setB l f t).length = l.length := by simp [setB]
theorem setB_at {l : List Cel} {f t i : Nat} : (setB l f t)[i]? = (l[i]?).map fun c => if f ≤ i ∧ i < t then bl 0 else c := by simp [setB, List.getElem?_mapIdx]
theorem setB_nil {l : List Cel} {f : Nat} : setB l f f = l := by
  refine List.ext_getElem? fun i => ?_
  rw [setB_at]
  cases l[i]? with
  | none => rfl
  | some c => simp only [Option.map_some]; rw [if_neg (by omega)]
theorem setB_succ {l : List Cel} {f j : Nat} (h : f + j < l.length) : (setB l f (f + j)).set (f + j) (bl 0) = setB l f (f + (j + 1)) := by
  refine List.ext_getElem? fun i => ?_
  rw [List.getElem?_set, setB_at, setB_at, setB_len]
  by_cases hi : f + j = i
  · subst hi
    rw [if_pos rfl, if_pos h, List.getElem?_eq_getElem h]
    simp only [Option.map_some]; rw [if_pos (by omega)]
  · rw [if_neg hi]
    cases l[i]? with
    | none => rfl
    | some c =>
      simp only [Option.map_some]
      by_cases h1 : f ≤ i ∧ i < f + j
      · rw [if_pos h1, if_pos (by omega)]
      · rw [if_neg h1, if_neg (by omega)]
theorem getD_at {l : List Cel} {i : Nat} {c : Cel} (h : l[i]? = some c) {d : Cel} : l.getD i d = c := by simp [List.getD, h]
end Go.Proofs.YthmpaddhmgnkbaaDoor.Am
end
section
/- Cells whose fields are written; invariants of a terminal in plain terms, as far as walks need them. -/
set_option linter.unusedSimpArgs false
set_option linter.unusedVariables false
set_option maxHeartbeats 4000000
set_option maxRecDepth 20000
namespace Go.Proofs.YthmpaddhmgnkbaaDoor.Am
open Go Go.RowKit Go.Proofs.Tryd
theorem fm_put {α : Type} {s : Nat} {c : α → List Value} (hc : ∀ x, (c x).length = s) {l : List α} {i j : Nat} {x y : α} {v : Value} (hx : l[i]? = some x) (hj : j < s) (hy : c y = (c x).set j v) :
    over (l.flatMap c) (i * s + j) [v] = (l.set i y).flatMap c := by
  have hi := (List.getElem?_eq_some_iff.1 hx).1
  have hle : (i + 1) * s ≤ l.length * s := Nat.mul_le_mul_right s hi
  rw [Nat.add_mul, Nat.one_mul] at hle
  rw [← fm_over hc hi]
  refine List.ext_getElem? fun n => ?_
  rw [over_get (by rw [fm_len hc]; simp; omega), over_get (by rw [fm_len hc, hc]; omega)]
  by_cases h1 : i * s ≤ n ∧ n < i * s + (c y).length
  · rw [if_pos h1, hy]
    rw [hc] at h1
    have hat := fm_at hc hx (j := n - i * s) (by omega)
    rw [show i * s + (n - i * s) = n by omega] at hat
    by_cases h2 : i * s + j ≤ n ∧ n < i * s + j + [v].length
    · rw [if_pos h2]
      simp only [List.length_singleton] at h2
      have hn : n = i * s + j := by omega
      subst hn
      rw [show i * s + j - (i * s + j) = 0 by omega, show i * s + j - i * s = j by omega, List.getElem?_set]
      simp [hc, hj]
    · rw [if_neg h2, hat, List.getElem?_set]
      simp only [List.length_singleton] at h2
      rw [if_neg (by omega)]
  · rw [if_neg h1, if_neg (by rw [hc] at h1; simp only [List.length_singleton]; omega)]
theorem GP.fld {h : Heap} {Fs Ms : Nat → Prop} {cv v : Value} {l : List Cel} {ps : List PC} {i j : Nat} {p q : PC} {t : TypeId} (H : Wf h) (G : GP h Fs Ms cv l ps) (hM : Fam h Ms cv) (hp : ps[i]? = some p) (hj : j < 3) (hs : asz prog t = some 1) (h1 : one v = true) (hq : cC q = (cC p).set j v)
    (ht : RdI prog h .i32 q.1 q.2.tx) (ho : Fam h (Off Fs Ms) q.1) :
    ∃ h', storeV prog h t (.pointer (some ⟨(eltA cv 3 i).block, (eltA cv 3 i).off + j, none⟩)) v = some (undef, h') ∧ GP h' Fs Ms cv (l.set i q.2) (ps.set i q) ∧ Ch (FamV h cv) h h' ∧ h'.size = h.size := by
  have hi := (List.getElem?_eq_some_iff.1 hp).1
  obtain ⟨a0, cc, e0⟩ := G.own.1.cell (by omega)
  have ea : (eltA cv 3 i) = ⟨a0.block, a0.off + i * 3, none⟩ := by rw [e0]; rfl
  have hle : (i + 1) * 3 ≤ ps.length * 3 := Nat.mul_le_mul_right 3 hi
  obtain ⟨h', e, O, C, z, _⟩ := G.own.put H (i := i * 3 + j) (vs := [v]) (a := ⟨a0.block, a0.off + (i * 3 + j), none⟩) ⟨a0, cc, e0, rfl⟩ (by simp; omega) (by simp [h1])
  have hls : ps.length = (ps.set i q).length := List.length_set.symm
  rw [fm_put cC_len hp hj hq, hls] at O
  have ap : ∀ v xs, RdI prog h .i32 v xs → Fam h (Off Fs Ms) v → RdI prog h' .i32 v xs ∧ Fam h' (Off Fs Ms) v := fun v xs R F =>
    ⟨Ch.rd C R fun y hy d => F.apart (Gs := Ms) (fun n a b => a.2 b) y hy (FamV.rg hM d), F.ch C fun z hz => (R.blk_lt hz).1⟩
  have key : ∀ p, p ∈ ps.set i q → RdI prog h' .i32 p.1 p.2.tx ∧ Fam h' (Off Fs Ms) p.1 := fun p hp => by
    rcases List.mem_or_eq_of_mem_set hp with hp | rfl
    · exact ap _ _ (G.rd p hp) (G.off p hp)
    · exact ap _ _ ht ho
  refine ⟨h', ?_, ⟨by rw [List.map_set, G.eq], O, fun p hp => (key p hp).1, fun p hp => (key p hp).2⟩, C, z⟩
  rw [ea, storeV_over (by rw [one_cells h1]; exact hs), one_cells h1]
  rw [show a0.off + i * 3 + j = a0.off + (i * 3 + j) by omega]
  simp only [List.toList_toArray] at e ⊢
  rw [e]; rfl
end Go.Proofs.YthmpaddhmgnkbaaDoor.Am
end
section
/- The program's terminal: the contract of put, by a walk. -/
set_option linter.unusedSimpArgs false
set_option linter.unusedVariables false
set_option maxHeartbeats 4000000
set_option maxRecDepth 20000
namespace Go.Proofs.YthmpaddhmgnkbaaDoor.Am
open Go Go.RowKit Go.Proofs.Tryd
theorem show_cases (r : Int) : showL r = [r] ∨ (showL r ≠ [r] ∧ (showL r).length ≠ 1) ∨ ∃ x, showL r = [x] ∧ x ≠ r := by
  cases h : showL r with
  | nil => exact .inr (.inl ⟨by simp, by simp⟩)
  | cons x l =>
    cases l with
    | nil =>
      by_cases e : x = r
      · exact .inl (by rw [e])
      · exact .inr (.inr ⟨x, rfl, e⟩)
    | cons y l => exact .inr (.inl ⟨by simp, by simp⟩)
/-- The cursor's row's first cell. -/
theorem Inv.rowA {X : TX} (I : Inv X) : ∃ A : Nat, X.row * X.cols = (A : Int) ∧ (A : Int) + X.cols ≤ (X.cells.length : Int) ∧ X.cells.length ≤ 500000 ∧ 0 ≤ X.rows * X.cols := by
  have hr := I.r; have hc := I.c; have hw := I.row
  have h0 : 0 ≤ X.row * X.cols := Int.mul_nonneg (by omega) (by omega)
  have h1 : (X.row + 1) * X.cols ≤ X.rows * X.cols := Int.mul_le_mul_of_nonneg_right (by omega) (by omega)
  have h2 : X.rows * X.cols ≤ 500 * 1000 := Int.mul_le_mul (by omega) (by omega) (by omega) (by omega)
  have h3 := I.n
  rw [Int.add_mul, Int.one_mul] at h1
  exact ⟨(X.row * X.cols).toNat, by omega, by omega, by omega, by omega⟩
theorem widthZ_le (r : Int) : 0 ≤ widthZ r ∧ widthZ r ≤ 2 := by
  unfold widthZ
  split
  · omega
  · split <;> omega
end Go.Proofs.YthmpaddhmgnkbaaDoor.Am
end
section
/- The program's terminal: the contract of put at runes without width, by a walk. -/
set_option linter.unusedSimpArgs false
set_option linter.unusedVariables false
set_option maxHeartbeats 4000000
set_option maxRecDepth 20000
namespace Go.Proofs.YthmpaddhmgnkbaaDoor.Am
open Go Go.RowKit Go.Proofs.Tryd
end Go.Proofs.YthmpaddhmgnkbaaDoor.Am
end
section
/- The program's terminal: the contract of put at runes with width, by a walk. -/
set_option linter.unusedSimpArgs false
set_option linter.unusedVariables false
set_option maxHeartbeats 4000000
set_option maxRecDepth 20000
namespace Go.Proofs.YthmpaddhmgnkbaaDoor.Am
open Go Go.RowKit Go.Proofs.Tryd
theorem wipeL_len {l : List Cel} {f t : Nat} : (wipeL l f t).length = l.length := by
  unfold wipeL
  split
  · exact setB_len
  · rfl
theorem clampZ_in {x n : Int} (h0 : 0 ≤ x) (h1 : x < n) : clampZ x n = x := by
  have M1 := imax_spec x 0
  have M2 := imin_spec (imax x 0) (n - 1)
  unfold clampZ
  omega
end Go.Proofs.YthmpaddhmgnkbaaDoor.Am
end
section
/- The program's terminal: the numbers of a sequence, by a walk. -/
set_option linter.unusedSimpArgs false
set_option linter.unusedVariables false
set_option maxHeartbeats 4000000
set_option maxRecDepth 20000
namespace Go.Proofs.YthmpaddhmgnkbaaDoor.Am
open Go Go.RowKit Go.Proofs.Tryd
def vL (l : List Int) : List Value := l.map (Value.int .i64)
theorem vL_app {a b : List Int} : vL (a ++ b) = vL a ++ vL b := by simp [vL]
theorem bsI {h : Heap} {x : Int} : abuildSlice prog h 86 1 #[(0, .int .i64 x)] = some (.slice (some ⟨h.size, 0, none⟩) 1 2, h.new 3 [.int .i64 x]) :=
  build1 underlying86 asz3 azero3 rfl rfl
theorem numsGo_len : ∀ {b l : List Int} {n : Int} {r : List Int}, numsGo l n b = some r → l.length + 1 ≤ r.length ∧ r.length ≤ l.length + 1 + b.length
  | [], l, n, r, h => by simp [numsGo] at h; subst h; simp
  | x :: b, l, n, r, h => by
    simp only [numsGo] at h
    split at h
    · have := numsGo_len h; simp at this ⊢; omega
    · split at h
      · have := numsGo_len h; simp at this ⊢; omega
      · cases h
def numsT (m : Nat) (h' : Heap) (y : Value) : Option (List Int) → Prop
  | none => y = .tuple #[.slice none 0 0, .bool false]
  | some l => ∃ v, y = .tuple #[v, .bool true] ∧ RdI prog h' .i64 v l ∧ ∀ z, blkOf v = some z → m ≤ z
end Go.Proofs.YthmpaddhmgnkbaaDoor.Am
end
section
/- The program's terminal: the contract of erase, by a walk. -/
set_option linter.unusedSimpArgs false
set_option linter.unusedVariables false
set_option maxHeartbeats 4000000
set_option maxRecDepth 20000
namespace Go.Proofs.YthmpaddhmgnkbaaDoor.Am
open Go Go.RowKit Go.Proofs.Tryd
end Go.Proofs.YthmpaddhmgnkbaaDoor.Am
end
section
/- Is a number among others: contracts of slices.Index, slices.Contains, by walks. -/
set_option linter.unusedSimpArgs false
set_option linter.unusedVariables false
set_option maxHeartbeats 4000000
set_option maxRecDepth 20000
namespace Go.Proofs.YthmpaddhmgnkbaaDoor.Am
open Go Go.RowKit Go.Proofs.Tryd
end Go.Proofs.YthmpaddhmgnkbaaDoor.Am
end
section
/- The program's terminal: the contract of do, by a walk. -/
set_option linter.unusedSimpArgs false
set_option linter.unusedVariables false
set_option maxHeartbeats 4000000
set_option maxRecDepth 20000
namespace Go.Proofs.YthmpaddhmgnkbaaDoor.Am
open Go Go.RowKit Go.Proofs.Tryd
theorem numsGo_bd : ∀ {b l : List Int} {n : Int} {r : List Int}, numsGo l n b = some r → (∀ x, x ∈ l → 0 ≤ x ∧ x ≤ 9999) → 0 ≤ n ∧ n ≤ 9999 → ∀ x, x ∈ r → 0 ≤ x ∧ x ≤ 9999
  | [], l, n, r, h, hl, hn => by
    simp [numsGo] at h; subst h
    intro x hx
    rcases List.mem_append.1 hx with hx | hx
    · exact hl x hx
    · obtain rfl := List.mem_singleton.1 hx; exact hn
  | y :: b, l, n, r, h, hl, hn => by
    simp only [numsGo] at h
    split at h
    · refine numsGo_bd h (fun x hx => ?_) (by omega)
      rcases List.mem_append.1 hx with hx | hx
      · exact hl x hx
      · obtain rfl := List.mem_singleton.1 hx; exact hn
    · split at h
      · have M1 := imin_spec (n * 10 + (y - 48)) 9999
        exact numsGo_bd h hl (by omega)
      · cases h
theorem getD_bd {l : List Int} (h : ∀ x, x ∈ l → 0 ≤ x ∧ x ≤ 9999) (i : Nat) : 0 ≤ l.getD i 0 ∧ l.getD i 0 ≤ 9999 := by
  cases hx : l[i]? with
  | none => simp [List.getD, hx]
  | some x => simp [List.getD, hx]; exact h x (List.mem_of_getElem? hx)
end Go.Proofs.YthmpaddhmgnkbaaDoor.Am
end
section
/- A terminal in plain terms: its grid stays right, whatever is typed and wiped; no program in sight. -/
set_option linter.unusedSimpArgs false
set_option linter.unusedVariables false
set_option maxHeartbeats 4000000
namespace Go.Proofs.YthmpaddhmgnkbaaDoor.Am
open Go Go.RowKit Go.Proofs.Tryd
/-- Cells of rows of so many columns are right. -/
structure GI (cols : Int) (l : List Cel) : Prop where
  emp : ∀ (i : Nat) (c : Cel), l[i]? = some c → c.tx = [] → ∃ (j : Nat) (d : Cel), i = j + 1 ∧ l[j]? = some d ∧ d.wd = true ∧ (i : Int) % cols ≠ 0
  wid : ∀ (i : Nat) (c : Cel), l[i]? = some c → c.wd = true → ∃ d : Cel, l[i + 1]? = some d ∧ d.tx = []
  nw : ∀ (i : Nat) (c : Cel), l[i]? = some c → c.tx = [] → c.wd = false
theorem Inv.gi {X : TX} (I : Inv X) : GI X.cols X.cells := ⟨I.emp, I.wid, I.nw⟩
theorem bl_tx {a : Int} : (bl a).tx ≠ [] := by simp [bl]
/-- Where a row of cells is blanked that parts no wide one. -/
theorem GI.blank {cols : Int} {l : List Cel} (G : GI cols l) {f t : Nat} (hf : ∀ c, l[f]? = some c → f < t → c.tx ≠ []) (ht : ∀ c, l[t]? = some c → f < t → c.tx ≠ []) : GI cols (setB l f t) := by
  by_cases hft : f < t
  · refine ⟨fun i c hi hc => ?_, fun i c hi hc => ?_, fun i c hi hc => ?_⟩
    · rw [setB_at, Option.map_eq_some_iff] at hi
      obtain ⟨c0, h0, rfl⟩ := hi
      split at hc
      · exact absurd hc bl_tx
      · rename_i hn
        obtain ⟨j, d, rfl, hj, hd, hm⟩ := G.emp _ _ h0 hc
        refine ⟨j, d, rfl, ?_, hd, hm⟩
        rw [setB_at, hj, Option.map_some, if_neg]
        intro hb
        have : j + 1 = t := by omega
        subst this
        exact ht _ h0 hft hc
    · rw [setB_at, Option.map_eq_some_iff] at hi
      obtain ⟨c0, h0, rfl⟩ := hi
      split at hc
      · cases hc
      · rename_i hn
        obtain ⟨d, hd, he⟩ := G.wid _ _ h0 hc
        refine ⟨d, ?_, he⟩
        rw [setB_at, hd, Option.map_some, if_neg]
        intro hb
        have : i + 1 = f := by omega
        subst this
        exact hf _ hd hft he
    · rw [setB_at, Option.map_eq_some_iff] at hi
      obtain ⟨c0, h0, rfl⟩ := hi
      split at hc
      · exact absurd hc bl_tx
      · rename_i hn
        rw [if_neg hn]
        exact G.nw _ _ h0 hc
  · have e : setB l f t = l := by
      refine List.ext_getElem? fun i => ?_
      rw [setB_at]
      cases l[i]? with
      | none => rfl
      | some c => simp only [Option.map_some]; rw [if_neg (by omega)]
    rw [e]; exact G
theorem GI.wipe {cols : Int} {l : List Cel} (G : GI cols l) {f t : Nat} (hT : t ≤ l.length) : GI cols (wipeL l f t) := by
  unfold wipeL
  split
  · rename_i hft
    have hfl : f < l.length := by omega
    have h1 : l[f]? = some l[f] := List.getElem?_eq_getElem hfl
    have h2 : l[t - 1]? = some l[t - 1] := List.getElem?_eq_getElem (by omega)
    rw [getD_at h1, getD_at h2]
    refine G.blank (fun c hc _ he => ?_) (fun c hc _ he => ?_)
    · split at hc
      · rename_i hx
        obtain ⟨j, d, rfl, hj, hd, _⟩ := G.emp _ _ h1 hx
        simp only [Nat.add_sub_cancel] at hc
        rw [hj] at hc; cases hc
        rw [G.nw _ _ hj he] at hd; cases hd
      · rename_i hx
        rw [h1] at hc; cases hc
        exact hx he
    · split at hc
      · rename_i hw
        obtain ⟨d, hd, hde⟩ := G.wid _ _ h2 hw
        rw [show t - 1 + 1 = t by omega] at hd
        obtain ⟨j, d2, hj1, hj2, hd2, _⟩ := G.emp _ _ hc he
        have : j = t := by omega
        subst this
        rw [hd] at hj2; cases hj2
        rw [G.nw _ _ hd hde] at hd2; cases hd2
      · rename_i hw
        obtain ⟨j, d2, hj1, hj2, hd2, _⟩ := G.emp _ _ hc he
        have : j = t - 1 := by omega
        subst this
        rw [h2] at hj2; cases hj2
        exact hw hd2
  · exact G
end Go.Proofs.YthmpaddhmgnkbaaDoor.Am
end
section
/- A terminal in plain terms: what is typed keeps it right; no program in sight. -/
set_option linter.unusedSimpArgs false
set_option linter.unusedVariables false
set_option maxHeartbeats 4000000
namespace Go.Proofs.YthmpaddhmgnkbaaDoor.Am
open Go Go.RowKit Go.Proofs.Tryd
theorem GI.same {cols : Int} {l : List Cel} (G : GI cols l) {i : Nat} {c0 c : Cel} (h0 : l[i]? = some c0) (h1 : c.tx = [] ↔ c0.tx = []) (h2 : c.wd = c0.wd) : GI cols (l.set i c) := by
  have hi := (List.getElem?_eq_some_iff.1 h0).1
  have get : ∀ (k : Nat) (d : Cel), (l.set i c)[k]? = some d → ∃ d0, l[k]? = some d0 ∧ (d.tx = [] ↔ d0.tx = []) ∧ d.wd = d0.wd := fun k d hd => by
    rw [List.getElem?_set] at hd
    by_cases e : i = k
    · subst e
      rw [if_pos rfl, if_pos hi] at hd; cases hd
      exact ⟨c0, h0, h1, h2⟩
    · rw [if_neg e] at hd
      exact ⟨d, hd, Iff.rfl, rfl⟩
  have put : ∀ (k : Nat) (d0 : Cel), l[k]? = some d0 → ∃ d, (l.set i c)[k]? = some d ∧ (d.tx = [] ↔ d0.tx = []) ∧ d.wd = d0.wd := fun k d0 hd => by
    by_cases e : i = k
    · subst e
      rw [h0] at hd; cases hd
      exact ⟨c, by rw [List.getElem?_set, if_pos rfl, if_pos hi], h1, h2⟩
    · exact ⟨d0, by rw [List.getElem?_set, if_neg e]; exact hd, Iff.rfl, rfl⟩
  refine ⟨fun k d hd hx => ?_, fun k d hd hw => ?_, fun k d hd hx => ?_⟩
  · obtain ⟨d0, g0, g1, g2⟩ := get k d hd
    obtain ⟨j, e, rfl, hj, he, hm⟩ := G.emp _ _ g0 (g1.1 hx)
    obtain ⟨e2, q0, q1, q2⟩ := put j e hj
    exact ⟨j, e2, rfl, q0, by rw [q2]; exact he, hm⟩
  · obtain ⟨d0, g0, g1, g2⟩ := get k d hd
    obtain ⟨e, hj, he⟩ := G.wid _ _ g0 (by rw [← g2]; exact hw)
    obtain ⟨e2, q0, q1, q2⟩ := put _ e hj
    exact ⟨e2, q0, q1.2 he⟩
  · obtain ⟨d0, g0, g1, g2⟩ := get k d hd
    rw [g2]; exact G.nw _ _ g0 (g1.1 hx)
theorem GI.two {cols : Int} {l : List Cel} (G : GI cols l) {i : Nat} {r a : Int} (h0 : l[i]? = some (bl 0)) (h1 : l[i + 1]? = some (bl 0)) (hm : ((i + 1 : Nat) : Int) % cols ≠ 0) : GI cols ((l.set i ⟨[r], a, true⟩).set (i + 1) ⟨[], a, false⟩) := by
  have hi1 := (List.getElem?_eq_some_iff.1 h1).1
  have g : ∀ (k : Nat), ((l.set i (⟨[r], a, true⟩ : Cel)).set (i + 1) ⟨[], a, false⟩)[k]? = if k = i + 1 then some ⟨[], a, false⟩ else if k = i then some ⟨[r], a, true⟩ else l[k]? := fun k => by
    rw [List.getElem?_set, List.getElem?_set, List.length_set]
    by_cases e1 : k = i + 1
    · subst e1; rw [if_pos rfl, if_pos (by omega), if_pos rfl]
    · rw [if_neg (fun e => e1 e.symm), if_neg e1]
      by_cases e2 : k = i
      · subst e2; rw [if_pos rfl, if_pos (by omega), if_pos rfl]
      · rw [if_neg (fun e => e2 e.symm), if_neg e2]
  refine ⟨fun k d hd hx => ?_, fun k d hd hw => ?_, fun k d hd hx => ?_⟩
  · rw [g] at hd
    split at hd
    · rename_i e
      subst e
      exact ⟨i, _, rfl, by rw [g, if_neg (by omega), if_pos rfl], rfl, hm⟩
    · split at hd
      · cases hd; cases hx
      · rename_i e1 e2
        obtain ⟨j, e, rfl, hj, he, hm2⟩ := G.emp _ _ hd hx
        by_cases ej : j = i + 1
        · subst ej; rw [h1] at hj; cases hj; cases he
        · by_cases ej2 : j = i
          · omega
          · exact ⟨j, e, rfl, by rw [g, if_neg ej, if_neg ej2]; exact hj, he, hm2⟩
  · rw [g] at hd
    split at hd
    · cases hd; cases hw
    · split at hd
      · rename_i e1 e2
        subst e2
        exact ⟨_, by rw [g, if_pos rfl], rfl⟩
      · rename_i e1 e2
        obtain ⟨e, hj, he⟩ := G.wid _ _ hd hw
        by_cases ej : k + 1 = i + 1
        · omega
        · by_cases ej2 : k + 1 = i
          · rw [ej2, h0] at hj; cases hj; exact absurd he bl_tx
          · exact ⟨e, by rw [g, if_neg ej, if_neg ej2]; exact hj, he⟩
  · rw [g] at hd
    split at hd
    · cases hd; rfl
    · split at hd
      · cases hd; cases hx
      · exact G.nw _ _ hd hx
theorem wipeL_in {l : List Cel} {f t i : Nat} (hT : t ≤ l.length) (h1 : f ≤ i) (h2 : i < t) : (wipeL l f t)[i]? = some (bl 0) := by
  unfold wipeL
  rw [if_pos (by omega), setB_at, List.getElem?_eq_getElem (by omega), Option.map_some, if_pos]
  split <;> split <;> omega
theorem clampZ_bd {x n : Int} (h : 1 ≤ n) : 0 ≤ clampZ x n ∧ clampZ x n < n := by
  have M1 := imax_spec x 0
  have M2 := imin_spec (imax x 0) (n - 1)
  unfold clampZ
  omega
theorem inv_move {X : TX} (I : Inv X) (r c : Int) : Inv (moveX X r c) := by
  have h1 := I.r; have h2 := I.c
  exact ⟨I.r, I.c, I.n, clampZ_bd (by omega), clampZ_bd (by omega), I.emp, I.wid, I.nw, I.last⟩
theorem inv_put {X : TX} (I : Inv X) (r : Int) : Inv (putX X r) := by
  unfold putX
  split
  · exact ⟨I.r, I.c, I.n, I.row, I.col, I.emp, I.wid, I.nw, fun i e => by cases e⟩
  · split
    · cases hl : X.last with
      | none => simpa only using I
      | some i =>
        obtain ⟨c, hc, hx⟩ := I.last i hl
        simp only [getD_at hc]
        split
        · have G := I.gi.same hc (c := { c with tx := c.tx ++ [r] }) ⟨fun e => by simp at e, fun e => absurd e hx⟩ rfl
          have hi := (List.getElem?_eq_some_iff.1 hc).1
          refine ⟨I.r, I.c, by rw [List.length_set]; exact I.n, I.row, I.col, G.emp, G.wid, G.nw, fun j e => ?_⟩
          have : i = j := by cases e; rfl
          subst this
          exact ⟨_, by rw [List.getElem?_set, if_pos rfl, if_pos hi], by simp⟩
        · exact I
    · rename_i hs hw
      obtain ⟨A, hA, hAl, hlen, _⟩ := I.rowA
      have hw2 := widthZ_le r
      obtain ⟨w, ew⟩ : ∃ w : Nat, widthZ r = (w : Int) := ⟨(widthZ r).toNat, by omega⟩
      rw [ew] at hw hw2 ⊢
      have hc := I.c; have hcol := I.col
      have M1 := imin_spec X.col (X.cols - (w : Int))
      obtain ⟨k, hk⟩ : ∃ k : Nat, imin X.col (X.cols - (w : Int)) = (k : Int) := ⟨(imin X.col (X.cols - (w : Int))).toNat, by omega⟩
      have e1 : ((A : Int) + (k : Int)).toNat = A + k := by omega
      have G := I.gi.wipe (f := A + k) (t := A + k + w) (by omega)
      have b0 := wipeL_in (l := X.cells) (f := A + k) (t := A + k + w) (i := A + k) (by omega) (by omega) (by omega)
      have hll := wipeL_len (l := X.cells) (f := A + k) (t := A + k + w)
      have hi0 := (List.getElem?_eq_some_iff.1 b0).1
      simp only [putAt, hk, hA, e1, Int.toNat_natCast]
      by_cases h2 : (w : Int) = 2
      · have b1 := wipeL_in (l := X.cells) (f := A + k) (t := A + k + w) (i := A + k + 1) (by omega) (by omega) (by omega)
        have hmod : ((A + k + 1 : Nat) : Int) % X.cols ≠ 0 := by
          have e : ((A + k + 1 : Nat) : Int) = (k : Int) + 1 + X.row * X.cols := by rw [hA]; omega
          rw [e, Int.add_mul_emod_self_right, Int.emod_eq_of_lt (by omega) (by omega)]
          omega
        have G2 := G.two (r := r) (a := X.attr) b0 b1 hmod
        simp only [if_pos h2, decide_eq_true h2]
        refine ⟨I.r, I.c, by rw [List.length_set, List.length_set, hll]; exact I.n, I.row, clampZ_bd (by omega), G2.emp, G2.wid, G2.nw, fun j e => ?_⟩
        cases e
        exact ⟨_, by rw [List.getElem?_set, if_neg (by omega), List.getElem?_set, if_pos rfl, if_pos hi0], by simp⟩
      · have G2 := G.same b0 (c := ⟨[r], X.attr, false⟩) ⟨fun e => by simp at e, fun e => absurd e bl_tx⟩ rfl
        simp only [if_neg h2, decide_eq_false h2]
        refine ⟨I.r, I.c, by rw [List.length_set, hll]; exact I.n, I.row, clampZ_bd (by omega), G2.emp, G2.wid, G2.nw, fun j e => ?_⟩
        cases e
        exact ⟨_, by rw [List.getElem?_set, if_pos rfl, if_pos hi0], by simp⟩
end Go.Proofs.YthmpaddhmgnkbaaDoor.Am
end
section
/- The program's terminal: the contract of inside, by a walk; rows that a step leaves alone. -/
set_option linter.unusedSimpArgs false
set_option linter.unusedVariables false
set_option maxHeartbeats 4000000
set_option maxRecDepth 20000
namespace Go.Proofs.YthmpaddhmgnkbaaDoor.Am
open Go Go.RowKit Go.Proofs.Tryd
end Go.Proofs.YthmpaddhmgnkbaaDoor.Am
end
section
/- The program's terminal: the contract of plain, by a walk. -/
set_option linter.unusedSimpArgs false
set_option linter.unusedVariables false
set_option maxHeartbeats 4000000
set_option maxRecDepth 20000
namespace Go.Proofs.YthmpaddhmgnkbaaDoor.Am
open Go Go.RowKit Go.Proofs.Tryd
theorem isR_valid {r : Int} (h : validB r = true) : isR r := by simp [validB] at h; simp [isR]; omega
theorem Fed.isR {b l s : List Int} (H : Fed b l s) : (∀ x, x ∈ b → isB x) → ∀ r, r ∈ l → Am.isR r := by
  induction H with
  | done h => intro _ r hr; cases hr
  | @step b r n l s h t ih =>
    intro hb x hx
    rcases List.mem_cons.1 hx with rfl | hx
    · by_cases e : (x, n) = ((65533 : Int), 1)
      · cases e; simp [Am.isR]
      · exact isR_valid (nextZ_exact hb h e).1
    · exact ih (fun y hy => hb y (List.mem_of_mem_drop hy)) x hx
theorem putX_held {X : TX} {s : List Int} {r : Int} : putX { X with held := s } r = { putX X r with held := s } := by
  obtain ⟨rows, cols, cells, row, col, attr, hid, last, st, seq, held⟩ := X
  unfold putX
  split
  · rfl
  · split
    · cases last with
      | none => rfl
      | some i => simp only; split <;> rfl
    · rfl
theorem foldl_held {l : List Int} {s : List Int} : ∀ {X : TX}, l.foldl putX { X with held := s } = { l.foldl putX X with held := s } := by
  induction l with
  | nil => intro X; rfl
  | cons r l ih => intro X; simp only [List.foldl_cons]; rw [putX_held]; exact ih
end Go.Proofs.YthmpaddhmgnkbaaDoor.Am
end
section
/- The program's terminal: the contract of plain at bytes that are fed, by a walk. -/
set_option linter.unusedSimpArgs false
set_option linter.unusedVariables false
set_option maxHeartbeats 4000000
set_option maxRecDepth 20000
namespace Go.Proofs.YthmpaddhmgnkbaaDoor.Am
open Go Go.RowKit Go.Proofs.Tryd
theorem inv_foldl {l : List Int} : ∀ {X : TX}, Inv X → Inv (l.foldl putX X) := by
  induction l with
  | nil => intro X I; exact I
  | cons r l ih => intro X I; exact ih (inv_put I r)
theorem inv_held {X : TX} (I : Inv X) (s : List Int) : Inv { X with held := s } := ⟨I.r, I.c, I.n, I.row, I.col, I.emp, I.wid, I.nw, I.last⟩
theorem bsB {h : Heap} {x : Int} : abuildSlice prog h 30 1 #[(0, .int .u8 x)] = some (.slice (some ⟨h.size, 0, none⟩) 1 2, h.new 5 [.int .u8 x]) :=
  build1 underlying30 asz5 azero5 rfl rfl
/-- Each of some runes is typed. -/
theorem putX_st {X : TX} {r : Int} : (putX X r).st = X.st := by
  obtain ⟨rows, cols, cells, row, col, attr, hid, last, st, seq, held⟩ := X
  unfold putX
  split
  · rfl
  · split
    · cases last with
      | none => rfl
      | some i => simp only; split <;> rfl
    · rfl
theorem foldl_st {l : List Int} : ∀ {X : TX}, (l.foldl putX X).st = X.st := by
  induction l with
  | nil => intro X; rfl
  | cons r l ih => intro X; rw [List.foldl_cons, ih, putX_st]
end Go.Proofs.YthmpaddhmgnkbaaDoor.Am
end
section
/- The program's terminal: the contract of plain at control bytes, and of plain, by walks. -/
set_option linter.unusedSimpArgs false
set_option linter.unusedVariables false
set_option maxHeartbeats 4000000
set_option maxRecDepth 20000
namespace Go.Proofs.YthmpaddhmgnkbaaDoor.Am
open Go Go.RowKit Go.Proofs.Tryd
end Go.Proofs.YthmpaddhmgnkbaaDoor.Am
end
section
/- A terminal in plain terms: each byte keeps it right; no program in sight. -/
set_option linter.unusedSimpArgs false
set_option linter.unusedVariables false
set_option maxHeartbeats 4000000
namespace Go.Proofs.YthmpaddhmgnkbaaDoor.Am
open Go Go.RowKit Go.Proofs.Tryd
theorem inv_st {X : TX} (I : Inv X) (s : Nat) (q : List Int) : Inv { X with st := s, seq := q } := ⟨I.r, I.c, I.n, I.row, I.col, I.emp, I.wid, I.nw, I.last⟩
theorem inv_nolast {X : TX} (I : Inv X) : Inv { X with last := none } := ⟨I.r, I.c, I.n, I.row, I.col, I.emp, I.wid, I.nw, fun i e => by cases e⟩
/-- Cells are wiped where none was typed last. -/
theorem inv_wipe {X : TX} (I : Inv X) (hl : X.last = none) {F T : Nat} (hT : T ≤ X.cells.length) : Inv { X with cells := wipeL X.cells F T } := by
  have G := I.gi.wipe (f := F) (t := T) hT
  exact ⟨I.r, I.c, by rw [show ({ X with cells := wipeL X.cells F T } : TX).cells.length = X.cells.length from wipeL_len]; exact I.n, I.row, I.col, G.emp, G.wid, G.nw, fun i e => by rw [show ({ X with cells := wipeL X.cells F T } : TX).last = X.last from rfl, hl] at e; cases e⟩
theorem inv_erase {X : TX} (I : Inv X) (hl : X.last = none) {q : Int} {F T : Nat} (hT : T ≤ X.cells.length) : Inv (eraseX X q F T) := by
  obtain ⟨A, hA, hAl, hlen, _⟩ := I.rowA
  have hcol := I.col
  unfold eraseX
  simp only [Int.toNat_natCast]
  split
  · exact inv_wipe I hl hT
  · split
    · exact inv_wipe I hl (by rw [hA]; omega)
    · split
      · exact inv_wipe I hl hT
      · exact I
theorem inv_do {X : TX} (I : Inv X) (hl : X.last = none) (l : List Int) (b : Int) : Inv (doX X l b) := by
  obtain ⟨A, hA, hAl, hlen, _⟩ := I.rowA
  have hc := I.c
  obtain ⟨cc, hcc⟩ : ∃ c : Nat, X.cols = (c : Int) := ⟨X.cols.toNat, by omega⟩
  have hA2 : (X.row + 1) * X.cols = ((A + cc : Nat) : Int) := by rw [Int.add_mul, Int.one_mul, hA]; omega
  unfold doX
  simp only
  split
  · split
    · exact ⟨I.r, I.c, I.n, I.row, I.col, I.emp, I.wid, I.nw, I.last⟩
    · exact I
  · split
    · exact ⟨I.r, I.c, I.n, I.row, I.col, I.emp, I.wid, I.nw, I.last⟩
    · split
      · exact inv_move I _ _
      · split
        · exact inv_move I _ _
        · split
          · exact inv_move I _ _
          · split
            · exact inv_move I _ _
            · split
              · exact inv_move I _ _
              · split
                · exact inv_move I _ _
                · split
                  · exact inv_erase (F := 0) I hl (Nat.le_refl _)
                  · split
                    · rw [hA, hA2]; exact inv_erase I hl (by omega)
                    · exact I
/-- What a terminal is between bytes. -/
structure Good (X : TX) : Prop where
  inv : Inv X
  st : X.st ≤ 2
  sl : X.seq.length ≤ 32
  sb : ∀ x, x ∈ X.seq → isB x
  hl : X.held.length ≤ 3
  hb : ∀ x, x ∈ X.held → isB x
  ln : X.st ≠ 0 → X.last = none
theorem doX_keeps {X : TX} {l : List Int} {b : Int} : (doX X l b).seq = X.seq ∧ (doX X l b).held = X.held ∧ (doX X l b).last = X.last := by
  unfold doX
  simp only
  (repeat' split) <;> first | exact ⟨rfl, rfl, rfl⟩ | (unfold eraseX; simp only; (repeat' split) <;> exact ⟨rfl, rfl, rfl⟩)
theorem foldl_seq {l : List Int} : ∀ {X : TX}, (l.foldl putX X).seq = X.seq ∧ (l.foldl putX X).held = X.held := by
  have one : ∀ {X : TX} {r : Int}, (putX X r).seq = X.seq ∧ (putX X r).held = X.held := by
    intro X r
    obtain ⟨rows, cols, cells, row, col, attr, hid, last, st, seq, held⟩ := X
    unfold putX
    split
    · exact ⟨rfl, rfl⟩
    · split
      · cases last with
        | none => exact ⟨rfl, rfl⟩
        | some i => simp only; split <;> exact ⟨rfl, rfl⟩
      · exact ⟨rfl, rfl⟩
  induction l with
  | nil => intro X; exact ⟨rfl, rfl⟩
  | cons r l ih => intro X; rw [List.foldl_cons, ih.1, ih.2]; exact one
end Go.Proofs.YthmpaddhmgnkbaaDoor.Am
end
section
/- A terminal in plain terms: each byte keeps it good; no program in sight. -/
set_option linter.unusedSimpArgs false
set_option linter.unusedVariables false
set_option maxHeartbeats 4000000
namespace Go.Proofs.YthmpaddhmgnkbaaDoor.Am
open Go Go.RowKit Go.Proofs.Tryd
theorem good_seqX {X : TX} (G : Good X) (h2 : X.st = 2) (s : List Int) (b : Int) : Good { seqX X s b with st := 0 } := by
  have hl := G.ln (by omega)
  unfold seqX
  split
  · exact ⟨inv_st G.inv 0 X.seq, by show (0 : Nat) ≤ 2; omega, G.sl, G.sb, G.hl, G.hb, fun e => absurd rfl e⟩
  · split
    · rename_i l _ _
      obtain ⟨k1, k2, k3⟩ := doX_keeps (X := X) (l := l) (b := b)
      have I := inv_do G.inv hl l b
      exact ⟨inv_st I 0 (doX X l b).seq, by show (0 : Nat) ≤ 2; omega, by show (doX X l b).seq.length ≤ 32; rw [k1]; exact G.sl, by show ∀ x, x ∈ (doX X l b).seq → isB x; rw [k1]; exact G.sb, by show (doX X l b).held.length ≤ 3; rw [k2]; exact G.hl, by show ∀ x, x ∈ (doX X l b).held → isB x; rw [k2]; exact G.hb, fun e => absurd rfl e⟩
    · exact ⟨inv_st G.inv 0 X.seq, by show (0 : Nat) ≤ 2; omega, G.sl, G.sb, G.hl, G.hb, fun e => absurd rfl e⟩
theorem good_feed {X : TX} (G : Good X) (h0 : X.st = 0) {b : Int} (hb : isB b) : Good (feedX X b) := by
  have F := fedN_fed (X.held.length + 1) (X.held ++ [b]) (by simp)
  obtain ⟨c1, c2, c3, c4⟩ := F.bound
  unfold feedX
  generalize (fedN (X.held.length + 1) (X.held ++ [b])).1 = l at *
  generalize (fedN (X.held.length + 1) (X.held ++ [b])).2 = s at *
  have e1 := foldl_seq (l := l) (X := X)
  have e2 := foldl_st (l := l) (X := X)
  exact ⟨inv_held (inv_foldl G.inv) s, by show (l.foldl putX X).st ≤ 2; rw [e2]; exact G.st, by show (l.foldl putX X).seq.length ≤ 32; rw [e1.1]; exact G.sl, by show ∀ x, x ∈ (l.foldl putX X).seq → isB x; rw [e1.1]; exact G.sb, c2,
    fun x hx => (List.mem_append.1 (c3 x hx)).elim (G.hb x) (fun hx => by obtain rfl := List.mem_singleton.1 hx; exact hb), fun e => absurd (show (l.foldl putX X).st = 0 by rw [e2]; exact h0) e⟩
theorem good_ctl {X : TX} (G : Good X) (h0 : X.st = 0) (b : Int) : Good (ctlX (flushX X) b) := by
  have IZ : Inv (flushX X) := by
    unfold flushX
    exact inv_nolast (inv_held (inv_foldl G.inv) [])
  have e1 := foldl_seq (l := List.replicate X.held.length (65533 : Int)) (X := X)
  have e2 := foldl_st (l := List.replicate X.held.length (65533 : Int)) (X := X)
  have hs : (flushX X).st = 0 := e2.trans h0
  have hq : (flushX X).seq = X.seq := e1.1
  have hh : (flushX X).held = [] := rfl
  have hn : (flushX X).last = none := rfl
  generalize flushX X = Z at *
  have base : ∀ W : TX, Inv W → W.st ≤ 2 → W.seq = Z.seq → W.held = Z.held → (W.st ≠ 0 → W.last = none) → Good W := fun W I s1 s2 s3 s4 =>
    ⟨I, s1, by rw [s2, hq]; exact G.sl, by rw [s2, hq]; exact G.sb, by rw [s3, hh]; decide, (by rw [s3, hh]; intro x hx; cases hx), s4⟩
  unfold ctlX
  split
  · exact base _ (inv_st IZ 1 Z.seq) (by show (1 : Nat) ≤ 2; omega) rfl rfl fun _ => hn
  · split
    · have hc := IZ.c
      exact base _ ⟨IZ.r, IZ.c, IZ.n, IZ.row, ⟨by show (0 : Int) ≤ 0; omega, by show (0 : Int) < Z.cols; omega⟩, IZ.emp, IZ.wid, IZ.nw, IZ.last⟩ (by show Z.st ≤ 2; omega) rfl rfl fun e => absurd hs e
    · split
      · exact base _ (inv_move IZ _ _) (by show Z.st ≤ 2; omega) rfl rfl fun e => absurd hs e
      · split
        · exact base _ (inv_move IZ _ _) (by show Z.st ≤ 2; omega) rfl rfl fun e => absurd hs e
        · exact base _ IZ (by omega) rfl rfl fun e => absurd hs e
theorem good_step {X : TX} (G : Good X) {b : Int} (hb : isB b) : Good (stepX X b) := by
  unfold stepX
  split
  · rename_i h1
    split
    · exact ⟨inv_st G.inv 2 [], by show (2 : Nat) ≤ 2; omega, by show ([] : List Int).length ≤ 32; decide, fun x hx => (by cases hx), G.hl, G.hb, fun _ => G.ln (by omega)⟩
    · exact ⟨inv_st G.inv 0 X.seq, by show (0 : Nat) ≤ 2; omega, G.sl, G.sb, G.hl, G.hb, fun e => absurd rfl e⟩
  · rename_i h1
    split
    · rename_i h2
      split
      · split
        · rename_i h3
          exact ⟨inv_st G.inv X.st _, G.st, by show (X.seq ++ [b]).length ≤ 32; simp; omega, fun x hx => (List.mem_append.1 hx).elim (G.sb x) (fun hx => by obtain rfl := List.mem_singleton.1 hx; exact hb), G.hl, G.hb, fun _ => G.ln (by omega)⟩
        · exact G
      · split
        · exact good_seqX G h2 _ _
        · exact ⟨inv_st G.inv 0 X.seq, by show (0 : Nat) ≤ 2; omega, G.sl, G.sb, G.hl, G.hb, fun e => absurd rfl e⟩
    · rename_i h2
      have h0 : X.st = 0 := by have := G.st; omega
      split
      · exact good_feed G h0 hb
      · exact good_ctl G h0 b
theorem good_write {b : List Int} : ∀ {X : TX}, Good X → (∀ x, x ∈ b → isB x) → Good (writeX X b) := by
  induction b with
  | nil => intro X G _; exact G
  | cons x b ih => intro X G h; exact ih (good_step G (h x List.mem_cons_self)) fun y hy => h y (List.mem_cons_of_mem _ hy)
end Go.Proofs.YthmpaddhmgnkbaaDoor.Am
end
section
/- The program's terminal: the contract of Write, by a walk. -/
set_option linter.unusedSimpArgs false
set_option linter.unusedVariables false
set_option maxHeartbeats 4000000
set_option maxRecDepth 20000
namespace Go.Proofs.YthmpaddhmgnkbaaDoor.Am
open Go Go.RowKit Go.Proofs.Tryd
end Go.Proofs.YthmpaddhmgnkbaaDoor.Am
end
section
/- A terminal in plain terms: a new one, one of another size, is good; no program in sight. -/
set_option linter.unusedSimpArgs false
set_option linter.unusedVariables false
set_option maxHeartbeats 4000000
namespace Go.Proofs.YthmpaddhmgnkbaaDoor.Am
open Go Go.RowKit Go.Proofs.Tryd
theorem sizeR_bd (r : Int) : 2 ≤ sizeR r ∧ sizeR r ≤ 500 := by
  have M1 := imax_spec r 2
  have M2 := imin_spec (imax r 2) 500
  unfold sizeR; omega
theorem sizeC_bd (c : Int) : 2 ≤ sizeC c ∧ sizeC c ≤ 1000 := by
  have M1 := imax_spec c 2
  have M2 := imin_spec (imax c 2) 1000
  unfold sizeC; omega
theorem blankL_len (r c : Int) : ((blankL r c).length : Int) = sizeR r * sizeC c := by
  have h1 := sizeR_bd r
  have h2 := sizeC_bd c
  have h3 := Int.mul_nonneg (show 0 ≤ sizeR r by omega) (show 0 ≤ sizeC c by omega)
  simp only [blankL, List.length_replicate]
  omega
theorem blankL_at {r c : Int} {i : Nat} {d : Cel} (h : (blankL r c)[i]? = some d) : d = bl 0 := by
  unfold blankL at h
  exact (List.mem_replicate.1 (List.mem_of_getElem? h)).2
theorem inv_resize (X : TX) (r c : Int) : Inv (resizeX X r c) := by
  have h1 := sizeR_bd r
  have h2 := sizeC_bd c
  refine ⟨h1, h2, blankL_len r c, ⟨by show (0 : Int) ≤ 0; omega, by show (0 : Int) < sizeR r; omega⟩, ⟨by show (0 : Int) ≤ 0; omega, by show (0 : Int) < sizeC c; omega⟩, fun i d hd hx => ?_, fun i d hd hw => ?_, fun i d hd hx => ?_, fun i e => by cases e⟩
  · have := blankL_at hd; subst this; exact absurd hx bl_tx
  · have := blankL_at hd; subst this; cases hw
  · have := blankL_at hd; subst this; exact absurd hx bl_tx
theorem good_new (r c : Int) : Good (newX r c) := by
  have I := inv_resize (newX r c) r c
  exact ⟨⟨I.r, I.c, I.n, I.row, I.col, I.emp, I.wid, I.nw, I.last⟩, by show (0 : Nat) ≤ 2; omega, by show ([] : List Int).length ≤ 32; decide, fun x hx => (by cases hx), by show ([] : List Int).length ≤ 3; decide, fun x hx => (by cases hx), fun e => absurd rfl e⟩
end Go.Proofs.YthmpaddhmgnkbaaDoor.Am
end
section
/- Copies of rows of runes: the contract of slices.Clone, by a walk. -/
set_option linter.unusedSimpArgs false
set_option linter.unusedVariables false
set_option maxHeartbeats 4000000
set_option maxRecDepth 20000
namespace Go.Proofs.YthmpaddhmgnkbaaDoor.Am
open Go Go.RowKit Go.Proofs.Tryd
end Go.Proofs.YthmpaddhmgnkbaaDoor.Am
end
section
/- Copies of cells: the contract of slices.Clone, by a walk. -/
set_option linter.unusedSimpArgs false
set_option linter.unusedVariables false
set_option maxHeartbeats 4000000
set_option maxRecDepth 20000
namespace Go.Proofs.YthmpaddhmgnkbaaDoor.Am
open Go Go.RowKit Go.Proofs.Tryd
end Go.Proofs.YthmpaddhmgnkbaaDoor.Am
end
section
/- A terminal that is none: contracts of its methods, by walks. -/
set_option linter.unusedSimpArgs false
set_option linter.unusedVariables false
set_option maxHeartbeats 4000000
set_option maxRecDepth 20000
namespace Go.Proofs.YthmpaddhmgnkbaaDoor.Am
open Go Go.RowKit Go.Proofs.Tryd
end Go.Proofs.YthmpaddhmgnkbaaDoor.Am
end
section
/- Grids as values; the program's terminal: the contract of Grid, by a walk. -/
set_option linter.unusedSimpArgs false
set_option linter.unusedVariables false
set_option maxHeartbeats 4000000
set_option maxRecDepth 20000
namespace Go.Proofs.YthmpaddhmgnkbaaDoor.Am
open Go Go.RowKit Go.Proofs.Tryd
theorem Var.loadP {P : Program} {h : Heap} {b i s : Nat} {cs : List Value} (V : Var h b cs) {t : TypeId} {d : TypeDesc} (ht : P.underlying t = some d) (hd : isAggD d = true) (hs : asz P t = some s) (hle : i + s ≤ cs.length) : aload P h t ⟨b, i, none⟩ = some (.agg ((cs.drop i).take s).toArray) := by
  obtain ⟨k, h1, h2, h3, _⟩ := V
  subst h2
  simp only [aload, h1, h3, if_true, ht, hd, hs, hle]
/-- A grid's cells, as they are read. -/
def GD (h : Heap) (Gs : Nat → Prop) (cv : Value) (l : List Cel) : Prop := ∃ ps : List PC, ps.map Prod.snd = l ∧ RS prog h 3 cC cv ps ∧ Fam h Gs cv ∧ ∀ p, p ∈ ps → RdI prog h .i32 p.1 p.2.tx ∧ Fam h Gs p.1
theorem GD.ch {h h' : Heap} {Fs Gs : Nat → Prop} {cv : Value} {l : List Cel} (G : GD h Gs cv l) (C : Ch (Rg Fs h) h h') (hd : ∀ n, Gs n → ¬ Fs n) : GD h' Gs cv l := by
  obtain ⟨ps, e, R, F, A⟩ := G
  exact ⟨ps, e, Ch.rd C R (F.apart hd), F.ch C fun z hz => (R.blk_lt hz).1, fun p hp => ⟨Ch.rd C (A p hp).1 ((A p hp).2.apart hd), (A p hp).2.ch C fun z hz => ((A p hp).1.blk_lt hz).1⟩⟩
theorem GD.keeps {h h' : Heap} {Gs : Nat → Prop} {cv : Value} {l : List Cel} (G : GD h Gs cv l) (K : Keeps h h') : GD h' Gs cv l := by
  obtain ⟨ps, e, R, F, A⟩ := G
  exact ⟨ps, e, R.keeps K, F.ch K fun z hz => (R.blk_lt hz).1, fun p hp => ⟨(A p hp).1.keeps K, (A p hp).2.ch K fun z hz => ((A p hp).1.blk_lt hz).1⟩⟩
theorem GD.mono {h : Heap} {Gs Gs' : Nat → Prop} {cv : Value} {l : List Cel} (G : GD h Gs cv l) (hs : ∀ n, Gs n → Gs' n) : GD h Gs' cv l := by
  obtain ⟨ps, e, R, F, A⟩ := G
  exact ⟨ps, e, R, F.mono hs, fun p hp => ⟨(A p hp).1, (A p hp).2.mono hs⟩⟩
def gV (X : TX) (cv : Value) : Value := .agg #[.int .i64 X.rows, .int .i64 X.cols, cv, .int .i64 X.row, .int .i64 X.col]
theorem list_set_self {α : Type} {l : List α} {i : Nat} {x : α} (h : l[i]? = some x) : l.set i x = l := by
  refine List.ext_getElem? fun n => ?_
  rw [List.getElem?_set]
  by_cases e : i = n
  · subst e
    rw [if_pos rfl, h, if_pos (List.getElem?_eq_some_iff.1 h).1]
  · rw [if_neg e]
end Go.Proofs.YthmpaddhmgnkbaaDoor.Am
end
section
/- Grids compared: contracts of Grid at none, and of the document's Cell and Same, by walks. -/
set_option linter.unusedSimpArgs false
set_option linter.unusedVariables false
set_option maxHeartbeats 4000000
set_option maxRecDepth 20000
namespace Go.Proofs.YthmpaddhmgnkbaaDoor.Am
open Go Go.RowKit Go.Proofs.Tryd
theorem boxV_cell {h : Heap} {v : Value} {a : Int} {w : Bool} (o : one v = true) : boxV prog h 45 (.agg #[v, .int .i64 a, .bool w]) = some (.pointer (some ⟨h.size, 0, none⟩), h.new 45 [v, .int .i64 a, .bool w]) := by
  simp [boxV, asz45, Value.cells, one_cells o, o, one_int, one_bool]
theorem loadCell {h : Heap} {b : Nat} {v : Value} {a : Int} {w : Bool} (V : Var h b [v, .int .i64 a, .bool w]) : aload prog h 43 ⟨b, 0, none⟩ = some v ∧ aload prog h 3 ⟨b, 1, none⟩ = some (.int .i64 a) ∧ aload prog h 4 ⟨b, 2, none⟩ = some (.bool w) ∧ aload prog h 45 ⟨b, 0, none⟩ = some (.agg #[v, .int .i64 a, .bool w]) :=
  ⟨V.load1 (i := 0) underlying43 rfl, V.load1 (i := 1) underlying3 rfl, V.load1 (i := 2) underlying4 rfl, V.loadA underlying45 rfl asz45⟩
theorem loadGrid {h : Heap} {b : Nat} {v : Value} {r c y x : Int} (V : Var h b [.int .i64 r, .int .i64 c, v, .int .i64 y, .int .i64 x]) : aload prog h 3 ⟨b, 0, none⟩ = some (.int .i64 r) ∧ aload prog h 3 ⟨b, 1, none⟩ = some (.int .i64 c) ∧ aload prog h 22 ⟨b, 2, none⟩ = some v ∧ aload prog h 3 ⟨b, 3, none⟩ = some (.int .i64 y) ∧ aload prog h 3 ⟨b, 4, none⟩ = some (.int .i64 x) ∧ aload prog h 24 ⟨b, 0, none⟩ = some (.agg #[.int .i64 r, .int .i64 c, v, .int .i64 y, .int .i64 x]) :=
  ⟨V.load1 (i := 0) underlying3 rfl, V.load1 (i := 1) underlying3 rfl, V.load1 (i := 2) underlying22 rfl, V.load1 (i := 3) underlying3 rfl, V.load1 (i := 4) underlying3 rfl, V.loadA underlying24 rfl asz24⟩
/-- A cell of a grid, as it is read. -/
theorem GD.at {h : Heap} {Gs : Nat → Prop} {cv : Value} {l : List Cel} {i : Nat} {c : Cel} (G : GD h Gs cv l) (hi : l[i]? = some c) : ∃ tv, RdI prog h .i32 tv c.tx ∧ aload prog h 45 (eltA cv 3 i) = some (.agg #[tv, .int .i64 c.ar, .bool c.wd]) ∧
    aload prog h 43 ⟨(eltA cv 3 i).block, (eltA cv 3 i).off + 0, none⟩ = some tv ∧ aload prog h 3 ⟨(eltA cv 3 i).block, (eltA cv 3 i).off + 1, none⟩ = some (.int .i64 c.ar) ∧ aload prog h 4 ⟨(eltA cv 3 i).block, (eltA cv 3 i).off + 2, none⟩ = some (.bool c.wd) ∧
    aindexAddr prog 22 cv (.int .i64 (i : Int)) = some (.pointer (some (eltA cv 3 i))) ∧ aload prog h 43 (eltA cv 3 i) = some tv := by
  obtain ⟨ps, e, R, F, A⟩ := G
  subst e
  rw [List.getElem?_map, Option.map_eq_some_iff] at hi
  obtain ⟨p, hp, rfl⟩ := hi
  have hm := List.mem_of_getElem? hp
  have hlt := (List.getElem?_eq_some_iff.1 hp).1
  have I := Rd.index R underlying22 asz45 (q := .i64) (i := (i : Int)) (by omega) (by omega)
  simp only [Int.toNat_natCast] at I
  have h0 := R.fld cC_len (t := 43) underlying43 rfl hp (j := 0) (by decide)
  exact ⟨p.1, (A p hm).1, R.agg cC_len underlying45 rfl asz45 hp, h0, R.fld cC_len underlying3 rfl hp (by decide), R.fld cC_len underlying4 rfl hp (by decide), I, by rw [eltA_eta] at h0; exact h0⟩
theorem GD.len {h : Heap} {Gs : Nat → Prop} {cv : Value} {l : List Cel} (G : GD h Gs cv l) : abuiltin prog .len #[22] #[cv] = some (.int .i64 l.length) := by
  obtain ⟨ps, e, R, F, A⟩ := G
  subst e
  rw [List.length_map]; exact R.len underlying22
theorem GD.one {h : Heap} {Gs : Nat → Prop} {cv : Value} {l : List Cel} (G : GD h Gs cv l) : one cv = true := by
  obtain ⟨ps, e, R, F, A⟩ := G
  exact Rd.one R
end Go.Proofs.YthmpaddhmgnkbaaDoor.Am
end
