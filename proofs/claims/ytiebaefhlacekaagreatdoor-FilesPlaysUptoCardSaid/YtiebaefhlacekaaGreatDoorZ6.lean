/- The texts of this seat, one behind another (part 6 of 16): the frame (an abstract machine), the contracts of functions, the laws. -/
import Derived.Test.YtiebaefhlacekaaGreatDoorZ5
import Derived.Lib.BytesEntry
section
/- bytes.IndexByte, Index at one byte, Equal, HasSuffix and TrimSuffix at one byte: contracts. -/
set_option linter.unusedSimpArgs false
set_option linter.unusedVariables false
set_option maxHeartbeats 4000000
set_option maxRecDepth 20000
namespace Go.Proofs.YtiebaefhlacekaaGreatDoor.Am
open Go Go.RowKit Go.Proofs.Tryz
/-- Where a number stands first; -1. -/
def idxZ : List Int → Int → Int
  | [], _ => -1
  | x :: l, c => if x = c then 0 else if idxZ l c = -1 then -1 else idxZ l c + 1
theorem u8_inj {x c : Int} (hx : isB x) (hc : isB c) : (x.toNat.toUInt8 == c.toNat.toUInt8) = decide (x = c) := by
  obtain ⟨a0, a1⟩ := hx
  obtain ⟨b0, b1⟩ := hc
  by_cases h : x = c
  · subst h; simp
  · rw [decide_eq_false h]
    have : x.toNat.toUInt8 ≠ c.toNat.toUInt8 := fun e => by
      have := congrArg UInt8.toNat e
      simp only [Nat.toUInt8, UInt8.toNat_ofNat'] at this
      omega
    simpa using this
theorem idx_eq {c : Int} (hc : isB c) : ∀ {xs : List Int}, (∀ x, x ∈ xs → isB x) → Lib.indexByte (Lib.bytesOf xs) c.toNat.toUInt8 = idxZ xs c
  | [], _ => rfl
  | x :: l, h => by
    have ih := idx_eq hc (xs := l) fun y hy => h y (List.mem_cons_of_mem _ hy)
    show (if (x.toNat.toUInt8 == c.toNat.toUInt8) = true then (0 : Int) else if (Lib.indexByte (Lib.bytesOf l) c.toNat.toUInt8 == -1) = true then -1 else Lib.indexByte (Lib.bytesOf l) c.toNat.toUInt8 + 1) = _
    rw [u8_inj (h x (by simp)) hc, ih]
    simp only [idxZ, decide_eq_true_eq, beq_iff_eq]
theorem ixb_calls {v : Value} {cv r : Int} {w : World} (hrun : (Extern.BytealgIndexByte.indexByte #[v, .int .u8 cv]).run prog w = .ok (.int .i64 r) w) :
    Calls prog 77 #[v, .int .u8 cv] w fun e w' => e = .returned (.int .i64 r) ∧ w' = w := by
  have h1 := @run_callFunc_extern prog 91 _ Extern.BytealgIndexByte.indexByte func91 (by kernel_rfl) (by kernel_rfl) (by kernel_rfl) (by kernel_rfl)
  go_enter func77, ntmps77
  go_wp2
  go_ret
  exact ⟨rfl, rfl⟩
theorem run_indexByteZero {a : Addr} {c : Nat} {cv : Int} {w : World} : (Extern.BytealgIndexByte.indexByte #[.slice (some a) 0 c, .int .u8 cv]).run prog w = .ok (.int .i64 (-1)) w := by
  have hs := Lib.run_indexByteString (P := prog) .empty cv w
  exact hs
theorem body_ixb : hasBody prog 77 = true := by kernel_rfl
theorem indexByte_ok {v : Value} {xs : List Int} {c : Int} {h : Heap} (R : RdI prog h .u8 v xs) (hB : ∀ x, x ∈ xs → isB x) (hc : isB c) :
    ACalls prog 77 #[v, .int .u8 c] h (fun y h' => y = .int .i64 (idxZ xs c) ∧ h' = h) := by
  intro w0 ρ w args' Hr A
  have h1 := A.1
  obtain ⟨y, hy, hr⟩ := A.get (i := 0) (x := v) rfl
  obtain ⟨z, hz, hq⟩ := A.get (i := 1) (x := .int .u8 c) rfl
  rw [hq.int_inv] at hz
  have hargs : args' = #[y, .int .u8 c] := by
    refine Array.ext' ?_
    obtain ⟨l⟩ := args'
    match l, h1, hy, hz with
    | [p, q], _, hy, hz => simp at hy hz; simp [hy, hz]
  subst hargs
  have key : (Extern.BytealgIndexByte.indexByte #[y, .int .u8 c]).run prog w = .ok (.int .i64 (idxZ xs c)) w := by
    obtain ⟨hlen, h2⟩ := R
    rcases h2 with ⟨h0, hv⟩ | ⟨b, o, cp, k, rfl, hb, hk, hlv, ha, ho, hcs⟩
    · have hx : xs = [] := List.eq_nil_of_length_eq_zero h0
      subst hx
      have : ∃ c', y = .slice none 0 c' := by
        rcases hv with rfl | rfl
        · obtain ⟨a', c', rfl, hS⟩ := hr.slice_inv
          obtain ⟨s1, s2, s3, s4⟩ := hS
          cases a' with
          | none => exact ⟨c', rfl⟩
          | some x => exact s4.elim
        · obtain ⟨a', c', rfl, hS⟩ := hr.slice_inv
          obtain ⟨s1, s2, s3, s4⟩ := hS
          cases a' with
          | none => exact ⟨c', rfl⟩
          | some x => exact s4.elim
      obtain ⟨c', rfl⟩ := this
      exact Lib.run_indexByteNil w 0 c' c
    · obtain ⟨a', c', rfl, hS⟩ := hr.slice_inv
      obtain ⟨s1, s2, s3, s4⟩ := hS
      cases a' with
      | none => exact s4.elim
      | some x' =>
        rcases s4 with ⟨_, L, hL, rfl, _⟩ | hc0
        · simp only [Nat.mul_one] at ho hcs hlen
          rw [← idx_eq hc hB]
          refine Lib.run_indexByteSlice w _ _ _ _ xs rfl (fun i hi => ?_) c
          obtain ⟨L', hL', B⟩ := Hr.lies b k hk
          simp only at hL
          rw [hL] at hL'; cases hL'
          have hcell : k.cells[o + i]? = some (.int .u8 (xs.getD i 0)) := by
            have : ((k.cells.drop o).take xs.length)[i]? = some (.int .u8 (xs.getD i 0)) := by
              rw [hcs, List.getElem?_map, List.getElem?_eq_getElem hi, List.getD_eq_getElem?_getD, List.getElem?_eq_getElem hi]; rfl
            rw [List.getElem?_take, if_pos hi, List.getElem?_drop] at this
            exact this
          obtain ⟨_, v', q1, q2⟩ := B.reads hlv _ _ hcell
          rw [q2.int_inv] at q1
          rw [Nat.add_assoc]; exact q1
        · have hx : xs = [] := List.eq_nil_of_length_eq_zero (by omega)
          subst hx
          exact run_indexByteZero
  refine (ixb_calls key).mono fun e w' hq => ?_
  obtain ⟨rfl, rfl⟩ := hq
  exact ⟨ρ, h, _, _, RenLe.refl _, Hr, VR.int _ _, .inl ⟨rfl, rfl, rfl⟩⟩
theorem index_ok {v s : Value} {xs : List Int} {c : Int} {h : Heap} (R : RdI prog h .u8 v xs) (S : RdI prog h .u8 s [c]) (hB : ∀ x, x ∈ xs → isB x) (hc : isB c) :
    ACalls prog 57 #[v, s] h (fun y h' => y = .int .i64 (idxZ xs c) ∧ h' = h) := by
  refine acalls_of_W func57 rfl (by kernel_rfl) (by kernel_rfl) (by simp [ntmps57]) ?_
  have d0 : decide ((([c] : List Int).length : Int) = 0) = false := rfl
  have d1 : decide ((([c] : List Int).length : Int) = 1) = true := rfl
  simp only [wk, wt, wl, ↓reduceIte, Nat.reduceEqDiff, Nat.reduceAdd, Nat.zero_add, not_false_eq_true, not_true_eq_false, RdI.len S underlying32, d0, d1, RdI.index S underlying32 asz5 (q := .i64) (i := (0 : Int)) (by decide) (by simp), Int.toNat_zero, RdI.at S (t := 5) underlying5 rfl (i := 0) (by simp), List.getD_cons_zero]
  refine (indexByte_ok R hB hc).use_pure ?_
  simp only [wk, wt, wl, ↓reduceIte, Nat.reduceEqDiff, Nat.reduceAdd, Nat.zero_add, not_false_eq_true, not_true_eq_false]
  all_goals exact ⟨rfl, trivial⟩
theorem strBytes : ∀ {l : List Int}, (strOfNums l).toList = l.map fun x => UInt8.ofNat x.toNat := fun {l} => by
  rw [Lib.toList_data, strOfNums_data]
theorem strInj : ∀ {a b : List Int}, (∀ x, x ∈ a → isB x) → (∀ x, x ∈ b → isB x) → (a.map (fun x => UInt8.ofNat x.toNat) = b.map (fun x => UInt8.ofNat x.toNat) ↔ a = b)
  | [], [], _, _ => by simp
  | [], y :: b, _, _ => by simp
  | x :: a, [], _, _ => by simp
  | x :: a, y :: b, ha, hb => by
    have ih := strInj (a := a) (b := b) (fun z hz => ha z (List.mem_cons_of_mem _ hz)) (fun z hz => hb z (List.mem_cons_of_mem _ hz))
    have e := u8_inj (ha x (by simp)) (hb y (by simp))
    have hx : (UInt8.ofNat x.toNat = UInt8.ofNat y.toNat) ↔ x = y := by
      constructor
      · intro g
        have : (x.toNat.toUInt8 == y.toNat.toUInt8) = true := by simpa [Nat.toUInt8] using g
        rw [e] at this; exact of_decide_eq_true this
      · rintro rfl; rfl
    simp only [List.map_cons, List.cons.injEq, ih, hx]
theorem strEq {a b : List Int} (ha : ∀ x, x ∈ a → isB x) (hb : ∀ x, x ∈ b → isB x) : ((strOfNums a).toList = (strOfNums b).toList) ↔ a = b := by
  rw [strBytes, strBytes]; exact strInj ha hb
theorem equal_ok {v s : Value} {xs ys : List Int} {h : Heap} (R : RdI prog h .u8 v xs) (S : RdI prog h .u8 s ys) (hx : ∀ x, x ∈ xs → isB x) (hy : ∀ x, x ∈ ys → isB x) :
    ACalls prog 58 #[v, s] h (fun y h' => y = .bool (decide (xs = ys)) ∧ h' = h) := by
  have e := strEq hx hy
  have ed : decide (xs = ys) = decide ((strOfNums xs).toList = (strOfNums ys).toList) := by simp only [e]
  rw [ed]
  refine acalls_of_W func58 rfl (by kernel_rfl) (by kernel_rfl) (by simp [ntmps58]) ?_
  simp only [wk, wt, wl, ↓reduceIte, Nat.reduceEqDiff, Nat.reduceAdd, Nat.zero_add, not_false_eq_true, not_true_eq_false, conv_str R, conv_str S]
/-- Does a row end with c? -/
def endsB (xs : List Int) (c : Int) : Bool := decide (1 ≤ xs.length ∧ xs.drop (xs.length - 1) = [c])
def trimZ (xs : List Int) (c : Int) : List Int := if endsB xs c = true then xs.take (xs.length - 1) else xs
theorem hasSuffix_ok {v s : Value} {xs : List Int} {c : Int} {h : Heap} (R : RdI prog h .u8 v xs) (S : RdI prog h .u8 s [c]) (hB : ∀ x, x ∈ xs → isB x) (hc : isB c) (hl : xs.length ≤ 100000000) :
    ACalls prog 43 #[v, s] h (fun y h' => y = .bool (endsB xs c) ∧ h' = h) := by
  refine acalls_of_W func43 rfl (by kernel_rfl) (by kernel_rfl) (by simp [ntmps43]) ?_
  have L1 : abuiltin prog .len #[32] #[s] = some (.int .i64 1) := RdI.len S underlying32
  by_cases c1 : (1 : Int) ≤ xs.length
  · have w1 : IntKind.i64.wrap ((xs.length : Int) - 1) = ((xs.length - 1 : Nat) : Int) := by rw [IntWalk.i64_in _ (by omega)]; omega
    have SX := Rd.sliceLo R underlying32 asz5 (q := .i64) (i := ((xs.length - 1 : Nat) : Int)) (by omega) (by omega)
    simp only [Int.toNat_natCast] at SX
    have RX := RdI.partLo R (L := xs.length - 1) (by omega)
    simp only [wk, wt, wl, ↓reduceIte, Nat.reduceEqDiff, Nat.reduceAdd, Nat.zero_add, not_false_eq_true, not_true_eq_false, RdI.len R underlying32, L1, decide_eq_true c1, w1, SX]
    refine (equal_ok RX S (fun x hx => hB x (List.mem_of_mem_drop hx)) (fun x hx => by simp at hx; subst hx; exact hc)).use_pure ?_
    have ee : endsB xs c = decide (xs.drop (xs.length - 1) = [c]) := by
      unfold endsB
      have : 1 ≤ xs.length := by omega
      simp [this]
    simp only [wk, wt, wl, ↓reduceIte, Nat.reduceEqDiff, Nat.reduceAdd, Nat.zero_add, not_false_eq_true, not_true_eq_false]
    all_goals (rw [ee]; exact ⟨rfl, trivial⟩)
  · have ee : endsB xs c = false := by unfold endsB; exact decide_eq_false fun g => c1 (by have := g.1; omega)
    rw [ee]
    simp only [wk, wt, wl, ↓reduceIte, Nat.reduceEqDiff, Nat.reduceAdd, Nat.zero_add, not_false_eq_true, not_true_eq_false, RdI.len R underlying32, L1, decide_eq_false c1]
    all_goals exact ⟨rfl, trivial⟩
theorem trim_ok {v s : Value} {xs : List Int} {c : Int} {h : Heap} (R : RdI prog h .u8 v xs) (S : RdI prog h .u8 s [c]) (hB : ∀ x, x ∈ xs → isB x) (hc : isB c) (hl : xs.length ≤ 100000000) :
    ACalls prog 30 #[v, s] h (fun y h' => RdI prog h .u8 y (trimZ xs c) ∧ blkOf y = blkOf v ∧ h' = h) := by
  refine acalls_of_W func30 rfl (by kernel_rfl) (by kernel_rfl) (by simp [ntmps30]) ?_
  have L1 : abuiltin prog .len #[32] #[s] = some (.int .i64 1) := RdI.len S underlying32
  simp only [wk, wt, wl, ↓reduceIte, Nat.reduceEqDiff, Nat.reduceAdd, Nat.zero_add, not_false_eq_true, not_true_eq_false]
  refine (hasSuffix_ok R S hB hc hl).use_pure ?_
  unfold trimZ
  cases he : endsB xs c with
  | true =>
    have h1 : 1 ≤ xs.length := (of_decide_eq_true he).1
    have w1 : IntKind.i64.wrap ((xs.length : Int) - 1) = ((xs.length - 1 : Nat) : Int) := by rw [IntWalk.i64_in _ (by omega)]; omega
    have SX := Rd.sliceHi R underlying32 asz5 (q' := .i64) (j := ((xs.length - 1 : Nat) : Int)) (by omega) (by omega)
    simp only [Int.toNat_natCast] at SX
    have RX := RdI.part R (L := 0) (H := xs.length - 1) (by omega) (by omega)
    simp only [List.drop_zero, Nat.sub_zero] at RX
    simp only [wk, wt, wl, ↓reduceIte, Nat.reduceEqDiff, Nat.reduceAdd, Nat.zero_add, not_false_eq_true, not_true_eq_false, RdI.len R underlying32, L1, w1, SX]
    all_goals exact ⟨RX, sliceV_blk, trivial⟩
  | false =>
    simp only [wk, wt, wl, ↓reduceIte, Nat.reduceEqDiff, Nat.reduceAdd, Nat.zero_add, not_false_eq_true, not_true_eq_false]
    all_goals exact ⟨R, trivial⟩
end Go.Proofs.YtiebaefhlacekaaGreatDoor.Am
end
