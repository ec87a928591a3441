/- Patterns in plain terms: how much each part of a reading takes; no program in sight. -/
import Derived.Test.YtnnkcbkenofhmaaKa
set_option linter.unusedSimpArgs false
set_option linter.unusedVariables false
namespace Go.Proofs.Ytnnkcbkenofhmaa.Am
open Go Go.RowKit Go.Proofs.Try
theorem find_at : ∀ {l : List Int} {n : Nat}, l[n]? = some 93 → (∀ j, j < n → l[j]? ≠ some 93) → findM l = some n
  | [], n, h, _ => by simp at h
  | x :: l, 0, h, _ => by simp at h; simp [findM, h]
  | x :: l, n + 1, h, hn => by
    have h0 := hn 0 (by omega)
    simp at h h0
    simp only [findM]
    rw [if_neg h0, find_at h fun j hj => by have := hn (j + 1) (by omega); simpa using this]
    rfl
theorem find_none : ∀ {l : List Int}, (∀ j : Nat, l[j]? ≠ some 93) → findM l = none
  | [], _ => rfl
  | x :: l, hn => by
    have h0 := hn 0
    simp at h0
    simp only [findM]
    rw [if_neg h0, find_none fun j => by have := hn (j + 1); simpa using this]
    rfl
theorem setM_len {l t : List Int} {p : Pat} (h : setM l = .ok (p, t)) : t.length ≤ l.length := by
  unfold setM at h
  simp only at h
  split at h
  · cases h
  · split at h
    · cases h
    · cases h
      rw [List.length_drop]
      split
      · rw [List.length_tail]; omega
      · omega
theorem digM_len : ∀ (l : List Int) (n : Int) (b : Bool), (digM n b l).2.1.length ≤ l.length
  | [], n, b => Nat.le_refl _
  | x :: l, n, b => by
    simp only [digM]
    split
    · exact Nat.le_trans (digM_len l _ _) (by simp)
    · exact Nat.le_refl _
theorem hiM_len (lo : Int) (l : List Int) : (hiM lo l).2.length ≤ l.length := by
  unfold hiM
  split
  · have := digM_len l.tail 0 false
    rw [List.length_tail] at this
    show (digM 0 false l.tail).2.1.length ≤ _
    omega
  · exact Nat.le_refl _
theorem endM_len {lo hi a b : Int} {l t : List Int} (h : endM lo hi l = .ok (a, b, t)) : t.length + 2 ≤ l.length := by
  unfold endM at h
  split at h
  · cases h; simp
  · cases h
theorem timesM_len {l t : List Int} {a b : Int} (h : timesM l = .ok (a, b, t)) : t.length ≤ l.length := by
  unfold timesM at h
  have h1 := digM_len l 0 false
  have h2 := hiM_len (digM 0 false l).1 (digM 0 false l).2.1
  split at h
  · cases h
  · split at h
    · cases h
    · have := endM_len h; omega
theorem peek_n (l : List Int) : ((peekM l).2.2 = 1 → 1 ≤ l.length) ∧ (2 ≤ (peekM l).2.2 → 2 ≤ l.length) := by
  rcases l with _ | ⟨a, _ | ⟨b, l⟩⟩
  · simp [peekM]
  · simp [peekM]
  · simp
theorem repM_len {l t : List Int} {p q : Pat} (h : repM p l = .ok (some (q, t))) : t.length < l.length := by
  have hn := peek_n l
  unfold repM at h
  obtain ⟨x, y, n, hp⟩ : ∃ x y n, peekM l = (x, y, n) := ⟨_, _, _, rfl⟩
  rw [hp] at h hn
  simp only at h hn
  have h1 : (l.drop 1).length = l.length - 1 := List.length_drop
  have h2 : (l.drop 2).length = l.length - 2 := List.length_drop
  split at h
  · rename_i c
    cases h
    have := hn.1 c.1
    omega
  · split at h
    · cases h
    · rename_i c
      have h3 : 2 ≤ n := by
        rcases Int.lt_or_le n 2 with e | e
        · exact absurd (.inl e) c
        · exact e
      have := hn.2 h3
      split at h
      · cases h
      · rename_i lo hi u hu
        cases h
        have := timesM_len hu
        omega
theorem repsM_len : ∀ (n : Nat) {p q : Pat} {l t : List Int}, repsM n p l = .ok (q, t) → t.length ≤ l.length
  | 0, p, q, l, t, h => by cases h
  | n + 1, p, q, l, t, h => by
    simp only [repsM] at h
    split at h
    · cases h; exact Nat.le_refl _
    · split at h
      · cases h
      · cases h; exact Nat.le_refl _
      · rename_i a b c
        have := repM_len c
        have := repsM_len n h
        omega
/-- A reading of a group takes no more than there is, and counts no more groups than it takes runes. -/
def GL (grp : List Int → Int → PRes) : Prop := ∀ l g p t g', grp l g = .ok (p, t, g') → t.length ≤ l.length ∧ (t.length : Int) + g' ≤ l.length + g + 1 ∧ g ≤ g'
/-- The same of what is no bracket's. -/
def AL (f : List Int → Int → PRes) : Prop := ∀ l g p t g', f l g = .ok (p, t, g') → t.length ≤ l.length ∧ (t.length : Int) + g' ≤ l.length + g ∧ g ≤ g'
theorem escM_len {grp : List Int → Int → PRes} (G : GL grp) {y : Int} {l t : List Int} {g g' : Int} {p : Pat} (hl : 2 ≤ l.length) (h : escM grp y l g = .ok (p, t, g')) : t.length < l.length ∧ (t.length : Int) + g' ≤ l.length + g ∧ g ≤ g' := by
  unfold escM at h
  have hd : (l.drop 2).length = l.length - 2 := List.length_drop
  split at h
  · cases h
  · split at h
    · cases h
    · split at h
      · cases h; omega
      · split at h
        · cases h; omega
        · split at h
          · have := G _ _ _ _ _ h; omega
          · cases h; omega
theorem peek_lt {l : List Int} {x y : Int} (h : peekM l = (x, y, 2)) : 2 ≤ l.length := by
  rcases l with _ | ⟨a, _ | ⟨b, l⟩⟩
  · simp [peekM] at h
  · simp [peekM] at h
  · simp
theorem atomM_len {grp : List Int → Int → PRes} (G : GL grp) {first : Bool} {l t : List Int} {g g' : Int} {p : Pat} (hl : 1 ≤ l.length) (h : atomM grp first l g = .ok (p, t, g')) : t.length < l.length ∧ (t.length : Int) + g' ≤ l.length + g ∧ g ≤ g' := by
  unfold atomM at h
  obtain ⟨x, y, n, hp⟩ : ∃ x y n, peekM l = (x, y, n) := ⟨_, _, _, rfl⟩
  rw [hp] at h
  simp only at h
  have hd : (l.drop 1).length = l.length - 1 := List.length_drop
  split at h
  · split at h
    · cases h
    · rename_i q u hs
      cases h
      have := setM_len hs
      omega
  · split at h
    · rename_i hn
      subst hn
      exact escM_len G (peek_lt hp) h
    · split at h
      · cases h
      · split at h
        · cases h; omega
        · split at h
          · cases h; omega
          · split at h
            · cases h; omega
            · cases h; omega
theorem ended_ne {l : List Int} (h : endedM l = false) : 1 ≤ l.length := by
  cases l with
  | nil => cases h
  | cons x l => simp
theorem pieM_len {grp : List Int → Int → PRes} (G : GL grp) : ∀ (n : Nat) {acc : List Pat} {l t : List Int} {g g' : Int} {p : Pat}, pieM grp n acc l g = .ok (p, t, g') → (t.length ≤ l.length ∧ (t.length : Int) + g' ≤ l.length + g ∧ g ≤ g') ∧ endedM t = true
  | 0, acc, l, t, g, g', p, h => by cases h
  | n + 1, acc, l, t, g, g', p, h => by
    simp only [pieM] at h
    split at h
    · rename_i he
      cases h
      exact ⟨by omega, he⟩
    · rename_i he
      have hl := ended_ne (by simpa using he)
      split at h
      · cases h
      · rename_i q u g1 ha
        have h1 := atomM_len G hl ha
        split at h
        · cases h
        · rename_i q2 u2 hr
          have h2 := repsM_len _ hr
          have h3 := pieM_len G n h
          exact ⟨by omega, h3.2⟩
theorem bar_lt {l : List Int} (h : barM l = true) : 2 ≤ l.length := by
  rcases l with _ | ⟨a, _ | ⟨b, l⟩⟩
  · cases h
  · cases h
  · simp
theorem altsM_len {grp : List Int → Int → PRes} (G : GL grp) : ∀ (n : Nat) {acc : List Pat} {l t : List Int} {g g' : Int} {p : Pat}, endedM l = true → altsM grp n acc l g = .ok (p, t, g') → (t.length ≤ l.length ∧ (t.length : Int) + g' ≤ l.length + g ∧ g ≤ g') ∧ endedM t = true ∧ barM t = false
  | 0, acc, l, t, g, g', p, _, h => by cases h
  | n + 1, acc, l, t, g, g', p, hl, h => by
    simp only [altsM] at h
    split at h
    · rename_i hb
      have hb2 := bar_lt hb
      have hd : (l.drop 2).length = l.length - 2 := List.length_drop
      split at h
      · cases h
      · rename_i q u g1 hp
        have h1 := pieM_len G _ hp
        have h2 := altsM_len G n h1.2 h
        exact ⟨by omega, h2.2⟩
    · rename_i hb
      cases h
      exact ⟨by omega, hl, by simpa using hb⟩
theorem altM_len {grp : List Int → Int → PRes} (G : GL grp) {l t : List Int} {g g' : Int} {p : Pat} (h : altM grp l g = .ok (p, t, g')) : (t.length ≤ l.length ∧ (t.length : Int) + g' ≤ l.length + g ∧ g ≤ g') ∧ endedM t = true ∧ barM t = false := by
  unfold altM at h
  split at h
  · cases h
  · rename_i q u g1 hp
    have h1 := pieM_len G _ hp
    have h2 := altsM_len G _ h1.2 h
    exact ⟨by omega, h2.2⟩
theorem grpM_GL : ∀ k, GL (grpM k)
  | 0 => fun l g p t g' h => by cases h
  | k + 1 => fun l g p t g' h => by
    simp only [grpM] at h
    split at h
    · cases h
    · rename_i q u g1 ha
      have h1 := (altM_len (grpM_GL k) ha).1
      split at h
      · cases h
      · cases h
        rw [List.length_drop]
        omega
/-- What is left is of what there was. -/
abbrev Sb (t l : List Int) : Prop := ∀ x, x ∈ t → x ∈ l
theorem sb_drop {l : List Int} {k : Nat} : Sb (l.drop k) l := fun x hx => List.mem_of_mem_drop hx
theorem sb_tail {l : List Int} : Sb l.tail l := fun x hx => List.mem_of_mem_tail hx
theorem setM_sb {l t : List Int} {p : Pat} (h : setM l = .ok (p, t)) : Sb t l := by
  unfold setM at h
  simp only at h
  split at h
  · cases h
  · split at h
    · cases h
    · cases h
      intro x hx
      have := sb_drop x hx
      split at this
      · exact sb_tail x this
      · exact this
theorem digM_sb : ∀ (l : List Int) (n : Int) (b : Bool), Sb (digM n b l).2.1 l
  | [], n, b => fun x hx => hx
  | y :: l, n, b => by
    simp only [digM]
    split
    · exact fun x hx => List.mem_cons_of_mem _ (digM_sb l _ _ x hx)
    · exact fun x hx => hx
theorem hiM_sb (lo : Int) (l : List Int) : Sb (hiM lo l).2 l := by
  unfold hiM
  split
  · exact fun x hx => sb_tail x (digM_sb l.tail 0 false x hx)
  · exact fun x hx => hx
theorem endM_sb {lo hi a b : Int} {l t : List Int} (h : endM lo hi l = .ok (a, b, t)) : Sb t l := by
  unfold endM at h
  split at h
  · cases h; exact fun x hx => List.mem_cons_of_mem _ (List.mem_cons_of_mem _ hx)
  · cases h
theorem timesM_sb {l t : List Int} {a b : Int} (h : timesM l = .ok (a, b, t)) : Sb t l := by
  unfold timesM at h
  split at h
  · cases h
  · split at h
    · cases h
    · exact fun x hx => digM_sb _ _ _ x (hiM_sb _ _ x (endM_sb h x hx))
theorem repM_sb {l t : List Int} {p q : Pat} (h : repM p l = .ok (some (q, t))) : Sb t l := by
  unfold repM at h
  obtain ⟨x, y, n, hp⟩ : ∃ x y n, peekM l = (x, y, n) := ⟨_, _, _, rfl⟩
  rw [hp] at h
  simp only at h
  split at h
  · cases h; exact sb_drop
  · split at h
    · cases h
    · split at h
      · cases h
      · rename_i lo hi u hu
        cases h
        exact fun x hx => sb_drop x (timesM_sb hu x hx)
theorem repsM_sb : ∀ (n : Nat) {p q : Pat} {l t : List Int}, repsM n p l = .ok (q, t) → Sb t l
  | 0, p, q, l, t, h => by cases h
  | n + 1, p, q, l, t, h => by
    simp only [repsM] at h
    split at h
    · cases h; exact fun x hx => hx
    · split at h
      · cases h
      · cases h; exact fun x hx => hx
      · rename_i a b c
        exact fun x hx => repM_sb c x (repsM_sb n h x hx)
def GS (grp : List Int → Int → PRes) : Prop := ∀ l g p t g', grp l g = .ok (p, t, g') → Sb t l
theorem escM_sb {grp : List Int → Int → PRes} (G : GS grp) {y : Int} {l t : List Int} {g g' : Int} {p : Pat} (h : escM grp y l g = .ok (p, t, g')) : Sb t l := by
  unfold escM at h
  split at h
  · cases h
  · split at h
    · cases h
    · split at h
      · cases h; exact sb_drop
      · split at h
        · cases h; exact sb_drop
        · split at h
          · exact fun x hx => sb_drop x (G _ _ _ _ _ h x hx)
          · cases h; exact sb_drop
theorem atomM_sb {grp : List Int → Int → PRes} (G : GS grp) {first : Bool} {l t : List Int} {g g' : Int} {p : Pat} (h : atomM grp first l g = .ok (p, t, g')) : Sb t l := by
  unfold atomM at h
  obtain ⟨x, y, n, hp⟩ : ∃ x y n, peekM l = (x, y, n) := ⟨_, _, _, rfl⟩
  rw [hp] at h
  simp only at h
  split at h
  · split at h
    · cases h
    · rename_i q u hs
      cases h
      exact fun x hx => sb_drop x (setM_sb hs x hx)
  · split at h
    · exact escM_sb G h
    · split at h
      · cases h
      · split at h
        · cases h; exact sb_drop
        · split at h
          · cases h; exact sb_drop
          · split at h
            · cases h; exact sb_drop
            · cases h; exact sb_drop
theorem pieM_sb {grp : List Int → Int → PRes} (G : GS grp) : ∀ (n : Nat) {acc : List Pat} {l t : List Int} {g g' : Int} {p : Pat}, pieM grp n acc l g = .ok (p, t, g') → Sb t l
  | 0, acc, l, t, g, g', p, h => by cases h
  | n + 1, acc, l, t, g, g', p, h => by
    simp only [pieM] at h
    split at h
    · cases h; exact fun x hx => hx
    · split at h
      · cases h
      · rename_i q u g1 ha
        split at h
        · cases h
        · rename_i q2 u2 hr
          exact fun x hx => atomM_sb G ha x (repsM_sb _ hr x (pieM_sb G n h x hx))
theorem altsM_sb {grp : List Int → Int → PRes} (G : GS grp) : ∀ (n : Nat) {acc : List Pat} {l t : List Int} {g g' : Int} {p : Pat}, altsM grp n acc l g = .ok (p, t, g') → Sb t l
  | 0, acc, l, t, g, g', p, h => by cases h
  | n + 1, acc, l, t, g, g', p, h => by
    simp only [altsM] at h
    split at h
    · split at h
      · cases h
      · rename_i q u g1 hp
        exact fun x hx => sb_drop x (pieM_sb G _ hp x (altsM_sb G n h x hx))
    · cases h; exact fun x hx => hx
theorem altM_sb {grp : List Int → Int → PRes} (G : GS grp) {l t : List Int} {g g' : Int} {p : Pat} (h : altM grp l g = .ok (p, t, g')) : Sb t l := by
  unfold altM at h
  split at h
  · cases h
  · rename_i q u g1 hp
    exact fun x hx => pieM_sb G _ hp x (altsM_sb G _ h x hx)
theorem grpM_GS : ∀ k, GS (grpM k)
  | 0 => fun l g p t g' h => by cases h
  | k + 1 => fun l g p t g' h => by
    simp only [grpM] at h
    split at h
    · cases h
    · rename_i q u g1 ha
      split at h
      · cases h
      · cases h
        exact fun x hx => altM_sb (grpM_GS k) ha x (sb_drop x hx)
/-- Where alternatives end and something is left there is a closing bracket. -/
theorem closes {t : List Int} (h1 : endedM t = true) (h2 : barM t = false) (h3 : t.length ≠ 0) : ∃ u, t = 92 :: 41 :: u := by
  rcases t with _ | ⟨a, _ | ⟨b, u⟩⟩
  · exact absurd rfl h3
  · cases h1
  · simp only [endedM, barM, decide_eq_true_eq, decide_eq_false_iff_not] at h1 h2
    obtain ⟨rfl, e⟩ := h1
    rcases e with e | e
    · exact absurd ⟨rfl, e⟩ h2
    · subst e; exact ⟨u, rfl⟩
end Go.Proofs.Ytnnkcbkenofhmaa.Am
