/- The texts of this seat, one behind another (part 15 of 16): the frame (an abstract machine), the contracts of functions, the laws. -/
import Derived.Test.YtiebaefhlacekaaGreatDoorZ12
import Derived.Test.YtiebaefhlacekaaGreatDoorZ14
import Derived.Test.YtiebaefhlacekaaGreatDoorZ7
import Derived.Carry
section
/- What is handed in to the statements of chapter 16, from its reading to the abstract heap. -/
set_option linter.unusedSimpArgs false
set_option linter.unusedVariables false
set_option maxRecDepth 100000
namespace Go.Proofs.YtiebaefhlacekaaGreatDoor.Am
open Go Go.ChangeShapes Go.WideShapes Go.ChangeAt Go.RowKit Go.Proofs.Tryz
theorem lay_int1 {t : TypeId} {k : IntKind} {h : Heap} {x : Tree} {cs : List Value} (ht : prog.underlying t = some (.int k)) (L : Lay prog h t x cs) : ∃ z : Int, x = .num z ∧ cs = [.int k z] := by
  obtain ⟨z, e1, e2, _⟩ := L.int_inv ht
  exact ⟨z, e1, e2⟩
theorem fm_one {k : IntKind} {xs : List Int} : xs.flatMap (fun z => [Value.int k z]) = xs.map (Value.int k) := by
  induction xs with
  | nil => rfl
  | cons x xs ih => simp [List.flatMap_cons, ih]
theorem lay_runes {h : Heap} {x : Tree} {cs : List Value} (L : Lay prog h 59 x cs) : ∃ (w : Value) (xs : List Int), cs = [w] ∧ x = .list (xs.map .num) ∧ RdI prog h .i32 w xs ∧ (∀ j, isR (xs.getD j 0)) ∧ xs.length ≤ maxLen := by
  have hwf : ∀ {es : List Tree}, (∀ e, e ∈ es → ∃ cs', Lay prog h 21 e cs') → ∀ z, Tree.num z ∈ es → -2147483648 ≤ z ∧ z ≤ 2147483647 := fun {es} H z hz => by
    obtain ⟨cs', L'⟩ := H _ hz
    obtain ⟨y, e, _, w⟩ := L'.int_inv underlying21
    cases e
    exact (Lit.wf_int_iff .i32 z).1 w
  have L0 := L
  obtain ⟨w, xs, e1, e2, R, hm⟩ := lay_rows (c := fun z : Int => [Value.int .i32 z]) (tree := Tree.num) underlying59 (show prog.cellsOf 21 = 1 by kernel_rfl) asz21 (fun x cs => lay_int1 underlying21) L
  subst e1
  obtain ⟨es, e3, _, h4⟩ := L0.slice_inv underlying59
  rw [e2] at e3
  have e3 : xs.map Tree.num = es := by cases e3; rfl
  refine ⟨w, xs, rfl, e2, by have := R; unfold RS at this; rw [fm_one] at this; exact this, fun j => ?_, hm⟩
  cases hx : xs[j]? with
  | none => simp [List.getD, hx, isR]
  | some z =>
    have hz : Tree.num z ∈ es := by rw [← e3]; exact List.mem_map.2 ⟨z, List.mem_of_getElem? hx, rfl⟩
    have := hwf (es := es) (fun e he => by
      rcases h4 with ⟨rfl, _⟩ | ⟨b, cells, _, _, _, _, hall⟩
      · cases he
      · obtain ⟨i, hi, e⟩ := List.getElem_of_mem he
        exact ⟨_, hall i _ (by rw [← e]; exact List.getElem?_eq_getElem hi)⟩) z hz
    simpa [List.getD, hx, isR] using this
theorem lay_bytes {h : Heap} {x : Tree} {cs : List Value} (L : Lay prog h 32 x cs) : ∃ (w : Value) (xs : List Int), cs = [w] ∧ x = .list (xs.map .num) ∧ RdI prog h .u8 w xs ∧ (∀ x, x ∈ xs → isB x) ∧ xs.length ≤ maxLen := by
  have hwf : ∀ {es : List Tree}, (∀ e, e ∈ es → ∃ cs', Lay prog h 5 e cs') → ∀ z, Tree.num z ∈ es → 0 ≤ z ∧ z ≤ 255 := fun {es} H z hz => by
    obtain ⟨cs', L'⟩ := H _ hz
    obtain ⟨y, e, _, w⟩ := L'.int_inv underlying5
    cases e
    exact (Lit.wf_int_iff .u8 z).1 w
  have L0 := L
  obtain ⟨w, xs, e1, e2, R, hm⟩ := lay_rows (c := fun z : Int => [Value.int .u8 z]) (tree := Tree.num) underlying32 (show prog.cellsOf 5 = 1 by kernel_rfl) asz5 (fun x cs => lay_int1 underlying5) L
  subst e1
  obtain ⟨es, e3, _, h4⟩ := L0.slice_inv underlying32
  rw [e2] at e3
  have e3 : xs.map Tree.num = es := by cases e3; rfl
  refine ⟨w, xs, rfl, e2, by have := R; unfold RS at this; rw [fm_one] at this; exact this, fun z hx => ?_, hm⟩
  have hz : Tree.num z ∈ es := by rw [← e3]; exact List.mem_map.2 ⟨z, hx, rfl⟩
  have := hwf (es := es) (fun e he => by
    rcases h4 with ⟨rfl, _⟩ | ⟨b, cells, _, _, _, _, hall⟩
    · cases he
    · obtain ⟨i, hi, e⟩ := List.getElem_of_mem he
      exact ⟨_, hall i _ (by rw [← e]; exact List.getElem?_eq_getElem hi)⟩) z hz
  simp [isB]; omega
theorem lay_text {h : Heap} {x : Tree} {cs : List Value} (L : Lay prog h 31 x cs) : ∃ (w : Value) (ls : List (List Int)), cs = [w] ∧ x = .list (ls.map fun xs => .list (xs.map .num)) ∧ LR h w ls ∧ ∀ i j, isR ((ls.getD i []).getD j 0) := by
  obtain ⟨es, rfl, _, ⟨rfl, rfl⟩ | ⟨b, cells, rfl, hb, hk, hc, hall⟩⟩ := L.slice_inv underlying31
  · exact ⟨_, [], rfl, rfl, ⟨[], Rd.nil0, fun i hi => by simp at hi⟩, fun i j => by simp [isR]⟩
  · have hc1 : prog.cellsOf 59 = 1 := by kernel_rfl
    rw [hc1, Nat.mul_one] at hc
    have hch : ∀ (es : List Tree) (cells : List Value), cells.length = es.length → (∀ (i : Nat) x, es[i]? = some x → Lay prog h 59 x ((cells.drop (i * 1)).take 1)) →
        ∃ ls : List (List Int), ls.length = es.length ∧ es = ls.map (fun xs => .list (xs.map .num)) ∧ (∀ (i : Nat) v xs, cells[i]? = some v → ls[i]? = some xs → RdI prog h .i32 v xs ∧ ∀ j, isR (xs.getD j 0)) := by
      intro es
      induction es with
      | nil => intro cells _ _; exact ⟨[], rfl, rfl, fun i v xs _ h => by simp at h⟩
      | cons e es ih =>
        intro cells hl hall
        match cells, hl with
        | c :: cells, hl =>
          obtain ⟨ls, l1, l2, l3⟩ := ih cells (by simpa using hl) (fun i x hx => by have := hall (i + 1) x (by simpa using hx); simpa using this)
          have L0 := hall 0 e rfl
          simp only [Nat.zero_mul, List.drop_zero, List.take_succ_cons, List.take_zero] at L0
          obtain ⟨w, xs, e1, e2, R, hr, _⟩ := lay_runes L0
          simp only [List.cons.injEq, and_true] at e1
          subst e1
          refine ⟨xs :: ls, by simp [l1], by simp [e2, ← l2], fun i v ys hv hy => ?_⟩
          cases i with
          | zero => simp at hv hy; subst hv; subst hy; exact ⟨R, hr⟩
          | succ i => exact l3 i v ys (by simpa using hv) (by simpa using hy)
    rw [hc1] at hall
    obtain ⟨ls, l1, l2, l3⟩ := hch es cells hc hall
    refine ⟨_, ls, rfl, by rw [l2], ⟨cells, ⟨by omega, .inr ⟨b, 0, 0, _, by rw [l1], hb, hk, rfl, asz59, by simp [inBlk]; omega, ?_⟩⟩, fun i hi => ?_⟩, fun i j => ?_⟩
    · simp only [inBlk, List.drop_zero]; exact List.take_of_length_le (by omega)
    · have hi' : i < cells.length := by omega
      have e1 : cells.getD i undef = cells[i] := by simp [List.getD, hi']
      have e2 : ls.getD i [] = ls[i] := by simp [List.getD, hi]
      rw [e1, e2]
      exact ⟨(l3 i _ _ (List.getElem?_eq_getElem hi') (List.getElem?_eq_getElem hi)).1, List.getElem?_eq_getElem hi'⟩
    · by_cases hi : i < ls.length
      · have hi' : i < cells.length := by omega
        have e2 : ls.getD i [] = ls[i] := by simp [List.getD, hi]
        rw [e2]
        exact (l3 i _ _ (List.getElem?_eq_getElem hi') (List.getElem?_eq_getElem hi)).2 j
      · have e2 : ls.getD i [] = [] := by rw [List.getD_eq_getElem?_getD, List.getElem?_eq_none (show ls.length ≤ i by omega)]; rfl
        rw [e2]; simp [isR]
theorem tw_runes {xs : List Int} : tw (.list (xs.map .num)) = xs.length + 1 := by
  have : ∀ xs : List Int, twL (xs.map Tree.num) = xs.length := by
    intro xs
    induction xs with
    | nil => rfl
    | cons x xs ih => simp only [List.map_cons, twL, tw, ih, List.length_cons]; omega
  simp [tw, this]
theorem tw_text {ls : List (List Int)} : tw (.list (ls.map fun xs => .list (xs.map .num))) = lenS ls + ls.length + 1 := by
  have : ∀ ls : List (List Int), twL (ls.map fun xs => Tree.list (xs.map .num)) = lenS ls + ls.length := by
    intro ls
    induction ls with
    | nil => rfl
    | cons x xs ih => simp only [List.map_cons, twL, tw_runes, ih, List.length_cons, lenS, List.sum_cons]; omega
  simp only [tw, this]
theorem lay_name {h : Heap} {x : Tree} {cs : List Value} (L : Lay prog h 9 x cs) : ∃ s : ByteArray, cs = [.string s] ∧ x = .str s := by
  have ht := underlying9
  cases L with
  | num ht' hw => rw [ht] at ht'; cases ht'
  | bool ht' => rw [ht] at ht'; cases ht'
  | str ht' _ => exact ⟨_, rfl, rfl⟩
  | nil ht' => rw [ht] at ht'; cases ht'
  | slice ht' _ _ _ _ _ => rw [ht] at ht'; cases ht'
  | struct ht' _ _ _ => rw [ht] at ht'; cases ht'
  | array ht' _ _ _ => rw [ht] at ht'; cases ht'
theorem lay_deed {h : Heap} {x : Tree} {cs : List Value} (L : Lay prog h 34 x cs) : ∃ (k n : Int) (s : ByteArray) (lv : Value) (ls : List (List Int)) (bv : Value) (xs : List Int), cs = [.int .i64 k, .int .i64 n, .string s, lv, bv] ∧
    x = .agg [.num k, .num n, .str s, .list (ls.map fun xs => .list (xs.map .num)), .list (xs.map .num)] ∧ LR h lv ls ∧ (∀ i j, isR ((ls.getD i []).getD j 0)) ∧ RdI prog h .u8 bv xs ∧ ∀ x, x ∈ xs → isB x := by
  obtain ⟨ps, rfl, hl, hn, hall⟩ := L.struct_inv underlying34
  have hlm : cs.length = 5 := hl.trans (show prog.cellsOf 34 = 5 by kernel_rfl)
  have hnm : ps.length = 5 := hn
  obtain ⟨a0, a1, a2, a3, a4, rfl⟩ : ∃ a0 a1 a2 a3 a4, ps = [a0, a1, a2, a3, a4] := by
    match ps, hnm with
    | [a0, a1, a2, a3, a4], _ => exact ⟨a0, a1, a2, a3, a4, rfl⟩
  obtain ⟨c0, c1, c2, c3, c4, rfl⟩ : ∃ c0 c1 c2 c3 c4, cs = [c0, c1, c2, c3, c4] := by
    match cs, hlm with
    | [c0, c1, c2, c3, c4], _ => exact ⟨c0, c1, c2, c3, c4, rfl⟩
  obtain ⟨k, rfl, e0, _⟩ := (hall 0 _ a0 rfl rfl).int_inv underlying3
  replace e0 : ([c0, c1, c2, c3, c4].drop 0).take (prog.cellsOf 3) = [.int .i64 k] := e0
  rw [show prog.cellsOf 3 = 1 by kernel_rfl] at e0
  obtain ⟨n, rfl, e1, _⟩ := (hall 1 _ a1 rfl rfl).int_inv underlying3
  replace e1 : ([c0, c1, c2, c3, c4].drop 1).take (prog.cellsOf 3) = [.int .i64 n] := e1
  rw [show prog.cellsOf 3 = 1 by kernel_rfl] at e1
  obtain ⟨s, e2, rfl⟩ := lay_name (hall 2 _ a2 rfl rfl)
  replace e2 : ([c0, c1, c2, c3, c4].drop 2).take (prog.cellsOf 9) = [.string s] := e2
  rw [show prog.cellsOf 9 = 1 by kernel_rfl] at e2
  obtain ⟨lv, ls, e3, rfl, q1, q2⟩ := lay_text (hall 3 _ a3 rfl rfl)
  replace e3 : ([c0, c1, c2, c3, c4].drop 3).take (prog.cellsOf 31) = [lv] := e3
  rw [show prog.cellsOf 31 = 1 by kernel_rfl] at e3
  obtain ⟨bv, xs, e4, rfl, q3, q4, _⟩ := lay_bytes (hall 4 _ a4 rfl rfl)
  replace e4 : ([c0, c1, c2, c3, c4].drop 4).take (prog.cellsOf 32) = [bv] := e4
  rw [show prog.cellsOf 32 = 1 by kernel_rfl] at e4
  simp only [List.drop_zero, List.drop_succ_cons, List.take_succ_cons, List.take_zero, List.cons.injEq, and_true] at e0 e1 e2 e3 e4
  subst e0 e1 e2 e3 e4
  exact ⟨k, n, s, c3, ls, c4, xs, rfl, rfl, q1, q2, q3, q4⟩
theorem text_bd {ls : List (List Int)} (h : tw (.list (ls.map fun xs => .list (xs.map .num))) ≤ 1048576) : lenS ls ≤ 1048576 ∧ ls.length ≤ 1048576 := by
  rw [tw_text] at h; omega
theorem deed_bd {k n : Int} {s : ByteArray} {ls : List (List Int)} {xs : List Int} (h : tw (.agg [.num k, .num n, .str s, .list (ls.map fun xs => .list (xs.map .num)), .list (xs.map .num)]) ≤ 1048576) : lenS ls ≤ 1048576 ∧ ls.length ≤ 1048576 := by
  refine text_bd ?_
  simp only [tw, twL] at h ⊢
  omega
theorem name_bd {s : ByteArray} (h : tw (.str s) ≤ 1048576) : s.size ≤ 1048576 := by
  simp only [tw] at h; omega
theorem encLs_bd {ls : List (List Int)} (h : lenS ls ≤ 1048576 ∧ ls.length ≤ 1048576) : (encLs ls).length ≤ 100000000 := by
  have := encLs_len ls; omega
end Go.Proofs.YtiebaefhlacekaaGreatDoor.Am
end
