/- Plain laws of units: tabs, beginnings, parts; no program in sight. -/
import Derived.Test.YtcnjmmffipjadaaDoorFn
set_option linter.unusedSimpArgs false
set_option linter.unusedVariables false
set_option maxHeartbeats 1000000
namespace Go.Proofs.YtcnjmmffipjadaaDoor.Am
open Go Go.RowKit Go.Proofs.Tryd
/-- A step makes a new unit, or lets a mark join the last one. -/
theorem ustep_cases {line : List Int} {tab : Int} {n : Nat} {r : Int} {us : List U} {col : Int} {Q : List U × Int → Prop}
    (hg : Q (us ++ [⟨n, n + 1, col, uwidth r col tab, utext r col tab⟩], col + uwidth r col tab))
    (hj : ∀ pre u, us = pre ++ [u] → zeroB r = true → joins line n u = true → Q (pre ++ [{ u with to := n + 1, tx := u.tx ++ [r] }], col)) : Q (ustep line tab n r (us, col)) := by
  unfold ustep
  simp only
  split
  · rename_i u hu
    split
    · rename_i hc
      have hne : us ≠ [] := by intro e; subst e; simp at hu
      obtain ⟨pre, rfl⟩ : ∃ pre, us = pre ++ [u] := ⟨us.dropLast, by
        have := List.dropLast_concat_getLast hne
        rw [List.getLast?_eq_some_getLast hne] at hu
        cases hu; exact this.symm⟩
      simpa using hj pre u rfl hc.1 hc.2
    · exact hg
  · exact hg
/-- Tabs. -/
def TabOk (line : List Int) (tab : Int) (us : List U) : Prop := ∀ u, u ∈ us → line.getD u.fr.toNat 0 = 9 → (u.col + u.wd) % tab = 0 ∧ u.wd ≤ tab ∧ u.to = u.fr + 1
theorem TabOk.to {line : List Int} {tab : Int} (ht : 1 ≤ tab ∧ tab ≤ 64) : ∀ n, TabOk line tab (unitsTo line tab n).1
  | 0 => fun u hu => by simp [unitsTo] at hu
  | n + 1 => by
    have ih := TabOk.to (line := line) ht n
    have ok := unitsTo_ok (line := line) ht n
    simp only [unitsTo]
    revert ih ok
    generalize unitsTo line tab n = st
    obtain ⟨us, col⟩ := st
    intro ih ok
    refine ustep_cases (Q := fun st => TabOk line tab st.1) ?_ ?_
    · intro u hu h9
      rcases List.mem_append.1 hu with h | h
      · exact ih u h h9
      · simp only [List.mem_singleton] at h; subst h
        simp only [Int.toNat_natCast] at h9
        have hm0 : 0 ≤ col % tab := Int.emod_nonneg _ (by omega)
        simp only [uwidth, h9, if_true]
        refine ⟨?_, by omega, trivial⟩
        have := Int.emod_add_mul_ediv col tab
        rw [show col + (tab - col % tab) = tab * (col / tab + 1) by rw [Int.mul_add]; omega]
        exact Int.mul_emod_right _ _
    · intro pre u e hz hj v hv h9
      subst e
      rcases List.mem_append.1 hv with h | h
      · exact ih v (by simp [h]) h9
      · simp only [List.mem_singleton] at h; subst h
        simp only [joins, Bool.and_eq_true, decide_eq_true_eq] at hj
        exact absurd h9 hj.1
theorem unitsL_tab {line : List Int} {tab : Int} (ht : 1 ≤ tab ∧ tab ≤ 64) {u : U} (hu : u ∈ unitsL line tab) (h9 : line.getD u.fr.toNat 0 = 9) : (u.col + u.wd) % tab = 0 ∧ u.wd ≤ tab ∧ u.to = u.fr + 1 := by
  have e : tabZ tab = tab := by unfold tabZ; rw [if_neg (by omega)]
  unfold unitsL at hu
  rw [e] at hu
  exact TabOk.to ht _ u hu h9
/-- Beginnings. -/
theorem unitsTo_front {line more : List Int} {tab : Int} (ht : 1 ≤ tab ∧ tab ≤ 64) : ∀ n, n ≤ line.length → unitsTo (line ++ more) tab n = unitsTo line tab n
  | 0, _ => rfl
  | n + 1, h => by
    have ih := unitsTo_front (line := line) (more := more) ht n (by omega)
    have ok := unitsTo_ok (line := line) ht n
    simp only [unitsTo, ih]
    revert ok
    generalize unitsTo line tab n = st
    obtain ⟨us, col⟩ := st
    intro ok
    have g : ∀ k, k < line.length → (line ++ more).getD k 0 = line.getD k 0 := fun k hk => by
      rw [List.getD_eq_getElem?_getD, List.getD_eq_getElem?_getD, List.getElem?_append_left hk]
    rw [g n (by omega)]
    unfold ustep
    simp only
    split
    · rename_i u hu
      have hb := ok.each u (List.mem_of_getLast? hu)
      have : joins (line ++ more) n u = joins line n u := by
        unfold joins; rw [g _ (by omega)]
      rw [this]
    · rfl
theorem unitsTo_more {line : List Int} {tab : Int} {a : List U} {x : U} {n : Nat} (h : (unitsTo line tab n).1 = a ++ [x]) : ∀ k, n ≤ k → ∃ y l, (unitsTo line tab k).1 = a ++ y :: l := by
  intro k hk
  induction k with
  | zero => obtain rfl : n = 0 := by omega
            exact ⟨x, [], h⟩
  | succ k ih =>
    by_cases e : n = k + 1
    · subst e; exact ⟨x, [], h⟩
    · obtain ⟨y, l, hy⟩ := ih (by omega)
      simp only [unitsTo]
      revert hy
      generalize unitsTo line tab k = st
      obtain ⟨us, col⟩ := st
      simp only
      rintro rfl
      refine ustep_cases (Q := fun st => ∃ y l, st.1 = a ++ y :: l) ⟨y, l ++ [⟨k, k + 1, col, uwidth (line.getD k 0) col tab, utext (line.getD k 0) col tab⟩], by simp⟩ fun pre u e _ _ => ?_
      rcases List.eq_nil_or_concat l with rfl | ⟨l', z, rfl⟩
      · have := congrArg List.dropLast e
        simp at this
        subst this
        exact ⟨_, [], rfl⟩
      · have := congrArg List.dropLast e
        rw [show a ++ y :: l'.concat z = (a ++ y :: l') ++ [z] by simp, List.dropLast_concat, List.dropLast_concat] at this
        subst this
        exact ⟨y, l' ++ [{ u with to := k + 1, tx := u.tx ++ [line.getD k 0] }], by simp⟩
theorem unitsL_front {line more : List Int} {tab : Int} (hne : unitsL line tab ≠ []) : ∃ a x y l, unitsL line tab = a ++ [x] ∧ unitsL (line ++ more) tab = a ++ y :: l := by
  have e : unitsL line tab = (unitsTo (line ++ more) (tabZ tab) line.length).1 := by
    unfold unitsL; rw [unitsTo_front (tabZ_range tab) _ (Nat.le_refl _)]
  obtain ⟨a, x, hx⟩ : ∃ a x, unitsL line tab = a ++ [x] := ⟨_, _, (List.dropLast_concat_getLast hne).symm⟩
  obtain ⟨y, l, hy⟩ := unitsTo_more (e.symm.trans hx) (line ++ more).length (by simp)
  exact ⟨a, x, y, l, hx, hy⟩
/-- Parts: units follow one another without a gap. -/
inductive Chain : Int → Int → List U → Int → Int → Prop
  | nil {a c : Int} : Chain a c [] a c
  | cons {a c b d : Int} {u : U} {us : List U} (h1 : u.fr = a) (h2 : u.fr < u.to) (h3 : u.col = c) (h4 : 1 ≤ u.wd) (h5 : u.to - u.fr ≤ 3) (h : Chain u.to (u.col + u.wd) us b d) : Chain a c (u :: us) b d
theorem Chain.app {a c b d e f : Int} {us vs : List U} (H : Chain a c us b d) (G : Chain b d vs e f) : Chain a c (us ++ vs) e f := by
  induction H with
  | nil => exact G
  | cons h1 h2 h3 h4 h5 h ih => exact .cons h1 h2 h3 h4 h5 (ih G)
theorem Chain.split {us vs : List U} : ∀ {a c e f : Int}, Chain a c (us ++ vs) e f → ∃ b d, Chain a c us b d ∧ Chain b d vs e f := by
  induction us with
  | nil => intro a c e f H; exact ⟨a, c, .nil, H⟩
  | cons u us ih =>
    intro a c e f H
    cases H with
    | cons h1 h2 h3 h4 h5 h =>
      obtain ⟨b, d, g1, g2⟩ := ih h
      exact ⟨b, d, .cons h1 h2 h3 h4 h5 g1, g2⟩
theorem Chain.last {a c e f : Int} {pre : List U} {u : U} (H : Chain a c (pre ++ [u]) e f) : e = u.to ∧ f = u.col + u.wd := by
  obtain ⟨b, d, _, g⟩ := H.split
  cases g with
  | cons h1 h2 h3 h4 h5 h => cases h with | nil => exact ⟨rfl, rfl⟩
theorem Chain.to {line : List Int} {tab : Int} (ht : 1 ≤ tab ∧ tab ≤ 64) : ∀ n : Nat, Chain 0 0 (unitsTo line tab n).1 n (unitsTo line tab n).2
  | 0 => .nil
  | n + 1 => by
    have ih := Chain.to (line := line) ht n
    simp only [unitsTo]
    revert ih
    generalize unitsTo line tab n = st
    obtain ⟨us, col⟩ := st
    simp only
    intro ih
    refine ustep_cases (Q := fun st => Chain 0 0 st.1 ((n + 1 : Nat) : Int) st.2) ?_ ?_
    · have hw := uwidth_range (r := line.getD n 0) (col := col) ht
      refine ih.app ?_
      have := Chain.cons (a := n) (c := col) (b := (n : Int) + 1) (d := col + uwidth (line.getD n 0) col tab) (u := ⟨n, n + 1, col, uwidth (line.getD n 0) col tab, utext (line.getD n 0) col tab⟩) rfl (by simp only; omega) rfl hw.1 (by simp only; omega) .nil
      simpa using this
    · intro pre u e hz hj
      subst e
      obtain ⟨b, d, g1, g2⟩ := ih.split
      have hl := ih.last
      simp only [joins, Bool.and_eq_true, decide_eq_true_eq] at hj
      have h5 : (n : Int) + 1 - u.fr ≤ 3 := by
        have := hj.2
        split at this <;> omega
      cases g2 with
      | cons h1 h2 h3 h4 h5' h =>
        refine g1.app ?_
        have := Chain.cons (a := b) (c := d) (b := (n : Int) + 1) (d := col) (u := { u with to := n + 1, tx := u.tx ++ [line.getD n 0] }) (us := []) h1 (by simp only; omega) h3 h4 h5 (by rw [hl.2]; exact .nil)
        simpa using this
theorem unitsL_chain {line : List Int} {tab : Int} : ∃ w, Chain 0 0 (unitsL line tab) line.length w ∧ w = endOf (unitsL line tab) 0 := by
  have H := Chain.to (line := line) (tabZ_range tab) line.length
  refine ⟨_, H, ?_⟩
  change Chain 0 0 (unitsL line tab) _ _ at H
  revert H
  generalize (unitsTo line (tabZ tab) line.length).2 = w
  generalize unitsL line tab = us
  intro H
  rcases List.eq_nil_or_concat us with rfl | ⟨pre, u, rfl⟩
  · have : ∀ {a c e f : Int}, Chain a c [] e f → c = f := fun H => by cases H; rfl
    exact (this H).symm
  · rw [List.concat_eq_append] at H ⊢
    have := H.last.2
    simpa [endOf] using this
/-- Each unit of a chain begins where those ahead of it end. -/
theorem Chain.at {a c e f : Int} {us : List U} (H : Chain a c us e f) : ∀ {j : Nat} {u : U}, us[j]? = some u → (∀ k v, k < j → us[k]? = some v → v.to ≤ u.fr ∧ v.col + v.wd ≤ u.col) ∧ a ≤ u.fr ∧ c ≤ u.col := by
  induction H with
  | nil => intro j u h; simp at h
  | @cons a c b d v us h1 h2 h3 h4 h5 h ih =>
    intro j u hj
    cases j with
    | zero => simp at hj; subst hj; exact ⟨fun k w hk => by omega, by omega, by omega⟩
    | succ j =>
      simp at hj
      obtain ⟨g1, g2, g3⟩ := ih hj
      refine ⟨fun k w hk hw => ?_, by omega, by omega⟩
      cases k with
      | zero => simp at hw; subst hw; exact ⟨g2, g3⟩
      | succ k => exact g1 k w (by omega) (by simpa using hw)
theorem colOf_in {line : List Int} {tab i e : Int} {j : Nat} {u : U} (hj : (unitsL line tab)[j]? = some u) (h1 : u.fr ≤ i) (h2 : i < u.to) : colOf (unitsL line tab) i e = (u.col, u.wd) := by
  obtain ⟨w, H, _⟩ := unitsL_chain (line := line) (tab := tab)
  exact colOf_at hj (fun k v hk hv => by have := (H.at hj).1 k v hk hv; omega) h2
theorem atOf_in {line : List Int} {tab c n : Int} {j : Nat} {u : U} (hj : (unitsL line tab)[j]? = some u) (h1 : u.col ≤ c) (h2 : c < u.col + u.wd) : atOf (unitsL line tab) c n = u.fr := by
  obtain ⟨w, H, _⟩ := unitsL_chain (line := line) (tab := tab)
  exact atOf_at hj (fun k v hk hv => by have := (H.at hj).1 k v hk hv; omega) h2
theorem Chain.le {a c e f : Int} {us : List U} (H : Chain a c us e f) : ∀ u, u ∈ us → u.col + u.wd ≤ f ∧ u.to ≤ e := by
  have base : ∀ {a c e f : Int} {us : List U}, Chain a c us e f → a ≤ e ∧ c ≤ f := by
    intro a c e f us H
    induction H with
    | nil => exact ⟨Int.le_refl _, Int.le_refl _⟩
    | cons h1 h2 h3 h4 h5 h ih => omega
  induction H with
  | nil => intro u hu; simp at hu
  | cons h1 h2 h3 h4 h5 h ih =>
    intro v hv
    have := base h
    rcases List.mem_cons.1 hv with rfl | hv
    · omega
    · exact ih v hv
theorem atOf_end {line : List Int} {tab n : Int} : atOf (unitsL line tab) (endOf (unitsL line tab) 0) n = n := by
  obtain ⟨w, H, e⟩ := unitsL_chain (line := line) (tab := tab)
  rw [← e]
  exact atOf_none fun v hv => by have := H.le v hv; omega
/-- What is shown of a unit is as wide as it, and may be shown. -/
def shownB (r : Int) : Bool := validB r && decide (¬ r < 32) && decide (¬ (127 ≤ r ∧ r < 160))
def wsum : List Int → Int
  | [] => 0
  | r :: l => widthZ r + wsum l
theorem wsum_append {l m : List Int} : wsum (l ++ m) = wsum l + wsum m := by
  induction l with
  | nil => simp [wsum]
  | cons r l ih => simp only [List.cons_append, wsum, ih]; omega
theorem width_one {r : Int} (h : (32 ≤ r ∧ r < 127) ∨ (128 ≤ r ∧ r < 160) ∨ r = 65533 ∨ validB r = false) (h0 : ¬ (0 ≤ r ∧ r < 32)) : widthZ r = 1 := by
  have hz : zeroB r = false := by
    simp only [zeroB, decide_eq_false_iff_not]
    simp only [validB, decide_eq_false_iff_not] at h
    omega
  have hw : wideB r = false := by
    simp only [wideB, decide_eq_false_iff_not]
    simp only [validB, decide_eq_false_iff_not] at h
    omega
  have hc : ctlB r = false := by
    simp only [ctlB, decide_eq_false_iff_not]
    simp only [validB, decide_eq_false_iff_not] at h
    omega
  simp [widthZ, hz, hw, hc]
theorem shown_of_zero {r : Int} (h : zeroB r = true) : shownB r = true := by
  simp only [zeroB, decide_eq_true_eq] at h
  simp only [shownB, validB, Bool.and_eq_true, decide_eq_true_eq]
  omega
theorem showL_shown {r : Int} : (∀ x, x ∈ showL r → shownB x = true) ∧ (widthZ r ≠ 0 → wsum (showL r) = widthZ r) := by
  unfold showL
  split
  · rename_i hc
    have hc' := hc
    simp only [ctlB, decide_eq_true_eq] at hc
    have hw : widthZ r = 2 := by
      have : zeroB r = false := by simp only [zeroB, decide_eq_false_iff_not]; omega
      simp [widthZ, this, hc']
    split
    · obtain rfl : r = 127 := by omega
      refine ⟨?_, fun _ => ?_⟩ <;> decide
    · have hw2 : widthZ (r + 64) = 1 := width_one (by omega) (by omega)
      refine ⟨fun x hx => ?_, fun _ => ?_⟩
      · simp only [List.mem_cons, List.not_mem_nil, or_false] at hx
        rcases hx with rfl | rfl <;> simp only [shownB, validB, Bool.and_eq_true, decide_eq_true_eq] <;> omega
      · have : widthZ 94 = 1 := by decide
        simp only [wsum, hw2, this, hw]; rfl
  · rename_i hc
    simp only [ctlB, decide_eq_true_eq] at hc
    split
    · rename_i h
      refine ⟨fun x hx => ?_, fun _ => ?_⟩
      · simp only [List.mem_singleton] at hx; subst hx; decide
      · have h1 : widthZ 65533 = 1 := by decide
        have h2 : widthZ r = 1 := width_one (h.elim (fun h => .inr (.inl h)) (fun h => .inr (.inr (.inr h)))) (by omega)
        simp only [wsum, h1, h2]; rfl
    · rename_i h
      refine ⟨fun x hx => ?_, fun _ => by simp [wsum]⟩
      simp only [List.mem_singleton] at hx; subst hx
      have hv : validB x = true := by cases e : validB x <;> simp_all
      have h1 : ¬ (128 ≤ x ∧ x < 160) := fun e => h (.inl e)
      simp only [shownB, hv, Bool.true_and, Bool.and_eq_true, decide_eq_true_eq]
      simp only [validB, decide_eq_true_eq] at hv
      omega
theorem utext_shown {r col tab : Int} (ht : 1 ≤ tab) : (∀ x, x ∈ utext r col tab → shownB x = true) ∧ wsum (utext r col tab) = uwidth r col tab := by
  have hm0 : 0 ≤ col % tab := Int.emod_nonneg _ (by omega)
  have hm1 : col % tab < tab := Int.emod_lt_of_pos _ (by omega)
  unfold utext uwidth
  split
  · refine ⟨fun x hx => ?_, ?_⟩
    · rw [(List.mem_replicate.1 hx).2]; decide
    · have : ∀ n : Nat, wsum (List.replicate n 32) = n := by
        intro n
        induction n with
        | zero => rfl
        | succ n ih =>
          have : widthZ 32 = 1 := by decide
          simp only [List.replicate_succ, wsum, ih, this]; omega
      rw [this]; omega
  · split
    · rename_i hz
      refine ⟨fun x hx => ?_, ?_⟩
      · simp only [List.mem_cons, List.not_mem_nil, or_false] at hx
        rcases hx with rfl | rfl
        · decide
        · exact shown_of_zero (widthZ_zero.1 hz)
      · have : widthZ 32 = 1 := by decide
        simp only [wsum, this, hz]; rfl
    · rename_i hz
      exact ⟨showL_shown.1, showL_shown.2 hz⟩
def ShownOk (us : List U) : Prop := ∀ u, u ∈ us → (∀ x, x ∈ u.tx → shownB x = true) ∧ wsum u.tx = u.wd
theorem ShownOk.to {line : List Int} {tab : Int} (ht : 1 ≤ tab ∧ tab ≤ 64) : ∀ n, ShownOk (unitsTo line tab n).1
  | 0 => fun u hu => by simp [unitsTo] at hu
  | n + 1 => by
    have ih := ShownOk.to (line := line) ht n
    simp only [unitsTo]
    revert ih
    generalize unitsTo line tab n = st
    obtain ⟨us, col⟩ := st
    intro ih
    refine ustep_cases (Q := fun st => ShownOk st.1) ?_ ?_
    · intro u hu
      rcases List.mem_append.1 hu with h | h
      · exact ih u h
      · simp only [List.mem_singleton] at h; subst h
        exact utext_shown ht.1
    · intro pre u e hz hj v hv
      subst e
      rcases List.mem_append.1 hv with h | h
      · exact ih v (by simp [h])
      · simp only [List.mem_singleton] at h; subst h
        obtain ⟨g1, g2⟩ := ih u (by simp)
        refine ⟨fun x hx => ?_, ?_⟩
        · rcases List.mem_append.1 hx with h | h
          · exact g1 x h
          · simp only [List.mem_singleton] at h; subst h; exact shown_of_zero hz
        · simp only [wsum_append, wsum, g2, widthZ_zero.2 hz]; omega
theorem unitsL_shown {line : List Int} {tab : Int} : ShownOk (unitsL line tab) := ShownOk.to (tabZ_range tab) _
end Go.Proofs.YtcnjmmffipjadaaDoor.Am
