/- The texts of this seat, one behind another (part 14 of 25): the frame (an abstract machine), the contracts of functions, the laws. -/
import Derived.Test.YthmpaddhmgnkbaaDoorZ13
import Derived.Test.YthmpaddhmgnkbaaDoorZ10
section
/- Right grids, decided: contracts of emit.right, emit.whole and of the document's letters, Right, by walks. -/
set_option linter.unusedSimpArgs false
set_option linter.unusedVariables false
set_option maxHeartbeats 8000000
set_option maxRecDepth 20000
namespace Go.Proofs.YthmpaddhmgnkbaaDoor.Am
open Go Go.RowKit Go.Proofs.Tryd
/-- A cell's letters are right. -/
def letQ (c : Cel) : Bool := match c.tx with
  | [] => false
  | r :: m => decide (showL r = [r]) && decide (widthZ r ≠ 0) && decide (decide (widthZ r = 2) = c.wd) && decide (m.length ≤ 2) && m.all fun y => decide (widthZ y = 0)
/-- A cell of a grid is right. -/
def cellQ (C : Int) (l : List Cel) (i : Nat) : Bool := match l[i]? with
  | none => false
  | some c => decide (c.ar = 0 ∨ c.ar = 1) && (if c.tx = [] then !c.wd && (decide ((i : Int) % C ≠ 0) && (l[i - 1]?.any fun d => d.wd && decide (d.ar = c.ar)))
      else letQ c && (!c.wd || (decide ((i : Int) % C < C - 1) && l[i + 1]?.any fun d => decide (d.tx = []))))
def wholeB (g : GM) : Bool := decide (2 ≤ g.R) && decide (g.R ≤ 500) && decide (2 ≤ g.C) && decide (g.C ≤ 1000) && decide ((g.l.length : Int) = g.R * g.C) && decide (0 ≤ g.y) && decide (g.y < g.R) && decide (0 ≤ g.x) && decide (g.x < g.C) && (List.range g.l.length).all fun i => cellQ g.C g.l i
theorem mul_bd {R C : Int} (h1 : 2 ≤ R) (h2 : R ≤ 500) (h3 : 2 ≤ C) (h4 : C ≤ 1000) : -9223372036854775808 ≤ R * C ∧ R * C ≤ 9223372036854775807 := by
  have a : R * C ≤ 500 * C := Int.mul_le_mul_of_nonneg_right h2 (by omega)
  have b : 0 ≤ R * C := Int.mul_nonneg (by omega) (by omega)
  omega
theorem range_all {n : Nat} {p : Nat → Bool} (h : ∀ i, i < n → p i = true) : (List.range n).all p = true := List.all_eq_true.2 fun i hi => h i (List.mem_range.1 hi)
theorem range_not {n i : Nat} {p : Nat → Bool} (hi : i < n) (h : p i = false) : (List.range n).all p = false := by
  cases e : (List.range n).all p with
  | false => rfl
  | true => have := List.all_eq_true.1 e i (List.mem_range.2 hi); rw [h] at this; cases this
theorem tmod_mod {i : Nat} {C : Int} : (i : Int).tmod C = (i : Int) % C := Int.tmod_eq_emod_of_nonneg (by omega)
theorem width_012 {r : Int} : widthZ r = 0 ∨ widthZ r = 1 ∨ widthZ r = 2 := by unfold widthZ; repeat' split <;> simp
theorem neqB {x y : Bool} : abin prog .neq 4 (.bool x) (.bool y) = some (.bool (!decide (x = y))) := by
  cases x <;> cases y <;> simp [abin, aeq, underlying4]

theorem lettersQ_ok {h : Heap} {ta : Value} {c : Cel} (R : RdI prog h .i32 ta c.tx) (h0 : c.tx ≠ []) (hR : ∀ y, y ∈ c.tx → isR y) (hl : c.tx.length ≤ 1000000000) :
    ACalls prog 22 #[.agg #[ta, .int .i64 c.ar, .bool c.wd]] h (fun y h' => y = .bool (letQ c) ∧ Keeps h h') := by
  refine acalls_of_W' func22 rfl (by kernel_rfl) (by kernel_rfl) (by simp [ntmps22]) ?_
  intro H
  obtain ⟨r, m, e⟩ : ∃ r m, c.tx = r :: m := by
    cases e : c.tx with
    | nil => exact absurd e h0
    | cons r m => exact ⟨r, m, rfl⟩
  have hr : isR r := hR r (by rw [e]; simp)
  have o1 : one ta = true := R.one
  have N1 := Keeps.new H 45 [ta, .int .i64 c.ar, .bool c.wd]
  have V1 := Var.new (e := 45) H (cs := [ta, .int .i64 c.ar, .bool c.wd])
  have R1 := R.keeps N1
  have hl1 : c.tx.length = m.length + 1 := by rw [e]; rfl
  have X0 : c.tx[0]? = some r := by rw [e]; rfl
  obtain ⟨IX, LX⟩ := R1.ix X0
  rw [Int.natCast_zero] at IX
  obtain ⟨a0, a1, a2, _⟩ := loadCell V1
  have LL := R1.len underlying43
  have hz1 : (h.new 45 [ta, .int .i64 c.ar, .bool c.wd]).size = h.size + 1 := rfl
  have hq : letQ c = (decide (showL r = [r]) && decide (widthZ r ≠ 0) && decide (decide (widthZ r = 2) = c.wd) && decide (m.length ≤ 2) && m.all fun y => decide (widthZ y = 0)) := by unfold letQ; rw [e]
  rw [hq]
  simp only [wk, wt, wl, ↓reduceIte, Nat.reduceEqDiff, Nat.reduceAdd, wz, aeff_box, boxV_cell o1, new_size]
  generalize h.new 45 [ta, .int .i64 c.ar, .bool c.wd] = h1 at *
  simp only [wk, wt, wl, ↓reduceIte, Nat.reduceEqDiff, Nat.reduceAdd, wz, a0, IX, LX]
  refine refWidth_ok.use_pure ?_
  by_cases c1 : decide (widthZ r = 2) = c.wd
  case neg =>
    have d1 : abin prog .neq 4 (.bool (decide (widthZ r = 2))) (.bool c.wd) = some (.bool true) := by rw [neqB, decide_eq_false c1]; rfl
    simp only [wk, wt, wl, ↓reduceIte, Nat.reduceEqDiff, Nat.reduceAdd, wz, a0, a2, d1]
    exact ⟨by simp [c1], N1⟩
  have d1 : abin prog .neq 4 (.bool (decide (widthZ r = 2))) (.bool c.wd) = some (.bool false) := by rw [neqB, decide_eq_true c1]; rfl
  by_cases c2 : widthZ r = 0
  · have d2 : decide (widthZ r = 0) = true := decide_eq_true c2
    simp only [wk, wt, wl, ↓reduceIte, Nat.reduceEqDiff, Nat.reduceAdd, wz, a0, a2, d1, d2]
    exact ⟨by simp [c2], N1⟩
  have d2 : decide (widthZ r = 0) = false := decide_eq_false c2
  by_cases c3 : m.length ≤ 2
  case neg =>
    have d3 : decide ((3 : Int) < (c.tx.length : Int)) = true := decide_eq_true (by omega)
    simp only [wk, wt, wl, ↓reduceIte, Nat.reduceEqDiff, Nat.reduceAdd, wz, a0, a2, d1, d2, LL, d3]
    exact ⟨by simp [c3], N1⟩
  have d3 : decide ((3 : Int) < (c.tx.length : Int)) = false := decide_eq_false (by omega)
  simp only [wk, wt, wl, ↓reduceIte, Nat.reduceEqDiff, Nat.reduceAdd, wz, a0, a2, d1, d2, LL, d3]
  refine (refShow_ok hr).use_pure ?_
  have N2 := Keeps.new (Ch.wf N1) 21 ((showL r).map (Value.int .i32))
  have R2 : RdI prog (h1.new 21 ((showL r).map (Value.int .i32))) .i32 (.slice (some ⟨h1.size, 0, none⟩) (showL r).length ((showL r).length + 1)) (showL r) := rdI_new (Ch.wf N1)
  have LL2 := R2.len underlying43
  have V2 := Keeps.var (Ch.wf N1) N2 V1
  have K2 := N1.trans N2
  generalize h1.new 21 ((showL r).map (Value.int .i32)) = h2 at *
  by_cases c4 : (showL r).length = 1
  case neg =>
    have d4 : decide (¬ (((showL r).length : Nat) : Int) = 1) = true := decide_eq_true (by omega)
    have hne : showL r ≠ [r] := fun e => c4 (by rw [e]; rfl)
    simp only [wk, wt, wl, ↓reduceIte, Nat.reduceEqDiff, Nat.reduceAdd, wz, LL2, d4]
    exact ⟨by simp [hne], K2⟩
  have d4 : decide (¬ (((showL r).length : Nat) : Int) = 1) = false := decide_eq_false (by omega)
  obtain ⟨s, hs⟩ : ∃ s, showL r = [s] := by
    match hq : showL r, c4 with
    | [s], _ => exact ⟨s, rfl⟩
  obtain ⟨IX2, LX2⟩ := R2.ix (i := 0) (x := s) (by rw [hs]; rfl)
  rw [Int.natCast_zero] at IX2
  by_cases c5 : s = r
  case neg =>
    have d5 : decide (¬ s = r) = true := decide_eq_true c5
    have hne : showL r ≠ [r] := fun e => c5 (by rw [hs] at e; simpa using e)
    simp only [wk, wt, wl, ↓reduceIte, Nat.reduceEqDiff, Nat.reduceAdd, wz, LL2, d4, IX2, LX2, d5]
    exact ⟨by simp [hne], K2⟩
  have hsr : showL r = [r] := by rw [hs, c5]
  have d5 : decide (¬ s = r) = false := decide_eq_false (fun h => h c5)
  simp only [wk, wt, wl, ↓reduceIte, Nat.reduceEqDiff, Nat.reduceAdd, wz, LL2, d4, IX2, LX2, d5]
  have hb : (decide (showL r = [r]) && decide (widthZ r ≠ 0) && decide (decide (widthZ r = 2) = c.wd) && decide (m.length ≤ 2) && m.all fun y => decide (widthZ y = 0)) = m.all fun y => decide (widthZ y = 0) := by
    rw [decide_eq_true hsr, decide_eq_true (show widthZ r ≠ 0 from c2), decide_eq_true c1, decide_eq_true c3]; rfl
  rw [hb]
  refine W_loop (fun tm hh => hh = h2 ∧ tm 1 = pt h.size ∧ ∃ i : Nat, tm 6 = .int .i64 ((i + 1 : Nat) : Int) ∧ i ≤ m.length ∧ ∀ j y, j < i → m[j]? = some y → widthZ y = 0) (fun tm _ => (c.tx.length - intOf (tm 6)).toNat) ⟨rfl, (by first | rfl | (simp only [wk, wt, wl, ↓reduceIte, Nat.reduceEqDiff, Nat.reduceAdd, wz]; done) | (simp only [wk, wt, wl, ↓reduceIte, Nat.reduceEqDiff, Nat.reduceAdd, wz]; rfl)), 0, (by first | rfl | (simp only [wk, wt, wl, ↓reduceIte, Nat.reduceEqDiff, Nat.reduceAdd, wz]; done) | (simp only [wk, wt, wl, ↓reduceIte, Nat.reduceEqDiff, Nat.reduceAdd, wz]; rfl)), by omega, fun j y hj => by omega⟩ ?_
  rintro tm hh ⟨rfl, t1, i, t6, hi, hz⟩
  obtain ⟨a0', _⟩ := loadCell V2
  simp only [wk, wt, wl, ↓reduceIte, Nat.reduceEqDiff, Nat.reduceAdd, wz, t1, t6, pt, a0', (R.keeps K2).len underlying43]
  refine condK_dec (fun hd => ?_) (fun hd => ?_)
  · have hi1 : i < m.length := by omega
    obtain ⟨y, hy⟩ : ∃ y, m[i]? = some y := ⟨_, List.getElem?_eq_getElem hi1⟩
    have hy1 : c.tx[i + 1]? = some y := by rw [e]; exact hy
    obtain ⟨IX3, LX3⟩ := (R.keeps K2).ix hy1
    simp only [wk, wt, wl, ↓reduceIte, Nat.reduceEqDiff, Nat.reduceAdd, wz, t1, t6, pt, a0', IX3, LX3]
    refine refWidth_ok.use_pure ?_
    by_cases c6 : widthZ y = 0
    · have d6 : decide (¬ widthZ y = 0) = false := decide_eq_false fun h => h c6
      simp (disch := omega) only [wk, wt, wl, ↓reduceIte, Nat.reduceEqDiff, Nat.reduceAdd, wz, t1, t6, pt, d6, IntWalk.i64_in, intOf_int]
      exact ⟨⟨i + 1, by simp, by omega, fun j z hj hz' => by
        by_cases ej : j = i
        · subst ej; rw [hy] at hz'; cases hz'; exact c6
        · exact hz j z (by omega) hz'⟩, by omega⟩
    · have d6 : decide (¬ widthZ y = 0) = true := decide_eq_true c6
      simp only [wk, wt, wl, ↓reduceIte, Nat.reduceEqDiff, Nat.reduceAdd, wz, t1, t6, pt, d6]
      refine ⟨?_, K2⟩
      have : (m.all fun y => decide (widthZ y = 0)) = false := by
        cases q : (m.all fun y => decide (widthZ y = 0)) with
        | false => rfl
        | true => exact absurd (of_decide_eq_true (List.all_eq_true.1 q y (List.mem_of_getElem? hy))) c6
      rw [this]
  · obtain rfl : i = m.length := by omega
    simp only [wk, wt, wl, ↓reduceIte, Nat.reduceEqDiff, Nat.reduceAdd, wz]
    refine ⟨?_, K2⟩
    have : (m.all fun y => decide (widthZ y = 0)) = true := List.all_eq_true.2 fun y hy => by
      obtain ⟨j, hj⟩ := List.mem_iff_getElem?.1 hy
      exact decide_eq_true (hz j y (List.getElem?_eq_some_iff.1 hj).1 hj)
    rw [this]

end Go.Proofs.YthmpaddhmgnkbaaDoor.Am
end
section
/- Right grids, decided: contracts of emit.right, emit.whole and of the document's Right, by walks. -/
set_option linter.unusedSimpArgs false
set_option linter.unusedVariables false
set_option maxHeartbeats 8000000
set_option maxRecDepth 20000
namespace Go.Proofs.YthmpaddhmgnkbaaDoor.Am
open Go Go.RowKit Go.Proofs.Tryd
/-- Cells whose texts are runes, and not too long. -/
def TxR (l : List Cel) : Prop := ∀ c, c ∈ l → (∀ y, y ∈ c.tx → isR y) ∧ c.tx.length ≤ 1000000000
theorem TxR.b {l : List Cel} (T : TxR l) : TxB l := fun c hc => by have := (T c hc).2; omega
theorem mark_ok {r : Int} {h : Heap} (h0 : isR r) (G : Gl h) : ACalls prog 72 #[.int .i32 r] h (fun v h' => v = .bool (decide (0 < widthZ r)) ∧ h' = h) := by
  refine acalls_of_W func72 rfl (by kernel_rfl) (by kernel_rfl) (by simp [ntmps72]) ?_
  simp only [wk, wt, wl, ↓reduceIte, Nat.reduceEqDiff, Nat.reduceAdd, wz]
  refine (width_ok h0 G).use_pure ?_
  simp only [wk, wt, wl, ↓reduceIte, Nat.reduceEqDiff, Nat.reduceAdd, wz]
theorem idxF_ok {h : Heap} {v : Value} {xs : List Int} (R : RdI prog h .i32 v xs) (hR : ∀ y, y ∈ xs → isR y) (G : Gl h) (hl : xs.length ≤ 1000000000) :
    ACalls prog 79 #[v, .func (.func 72) #[] #[]] h (fun y h' => (∃ z : Int, y = .int .i64 z ∧ decide (0 ≤ z) = xs.any fun y => decide (0 < widthZ y)) ∧ h' = h) := by
  refine acalls_of_W func79 rfl (by kernel_rfl) (by kernel_rfl) (by simp [ntmps79]) ?_
  simp only [wk, wt, wl, ↓reduceIte, Nat.reduceEqDiff, Nat.reduceAdd, wz, R.len underlying43]
  refine W_loop (fun tm hh => h = hh ∧ tm 0 = v ∧ tm 1 = .func (.func 72) #[] #[] ∧ tm 7 = .int .i64 (xs.length : Int) ∧ ∃ i : Nat, tm 8 = .int .i64 (i : Int) ∧ i ≤ xs.length ∧ ∀ j y, j < i → xs[j]? = some y → ¬ 0 < widthZ y) (fun tm _ => (xs.length - intOf (tm 8)).toNat) ⟨rfl, (by first | rfl | (simp only [wk, wt, wl, ↓reduceIte, Nat.reduceEqDiff, Nat.reduceAdd, wz]; done) | (simp only [wk, wt, wl, ↓reduceIte, Nat.reduceEqDiff, Nat.reduceAdd, wz]; rfl)), (by first | rfl | (simp only [wk, wt, wl, ↓reduceIte, Nat.reduceEqDiff, Nat.reduceAdd, wz]; done) | (simp only [wk, wt, wl, ↓reduceIte, Nat.reduceEqDiff, Nat.reduceAdd, wz]; rfl)), (by first | rfl | (simp only [wk, wt, wl, ↓reduceIte, Nat.reduceEqDiff, Nat.reduceAdd, wz]; done) | (simp only [wk, wt, wl, ↓reduceIte, Nat.reduceEqDiff, Nat.reduceAdd, wz]; rfl)), 0, (by first | rfl | (simp only [wk, wt, wl, ↓reduceIte, Nat.reduceEqDiff, Nat.reduceAdd, wz]; done) | (simp only [wk, wt, wl, ↓reduceIte, Nat.reduceEqDiff, Nat.reduceAdd, wz]; rfl)), by omega, fun j y hj => by omega⟩ ?_
  rintro tm _ ⟨rfl, t0, t1, t7, i, t8, hi, hz⟩
  simp only [wk, wt, wl, ↓reduceIte, Nat.reduceEqDiff, Nat.reduceAdd, wz, t0, t1, t7, t8]
  refine condK_dec (fun hd => ?_) (fun hd => ?_)
  · have hi1 : i < xs.length := by omega
    obtain ⟨y, hy⟩ : ∃ y, xs[i]? = some y := ⟨_, List.getElem?_eq_getElem hi1⟩
    obtain ⟨IX, LX⟩ := R.ix hy
    have wi : IntKind.i64.wrap ((i : Int) + 1) = ((i + 1 : Nat) : Int) := by rw [IntWalk.i64_in _ (by omega)]; omega
    simp only [wk, wt, wl, ↓reduceIte, Nat.reduceEqDiff, Nat.reduceAdd, wz, t0, t1, t7, t8, IX, LX, callV_func, body72]
    refine (mark_ok (hR y (List.mem_of_getElem? hy)) G).use ?_
    rintro _ _ ⟨rfl, hh⟩
    obtain rfl := hh.symm
    by_cases c1 : 0 < widthZ y
    · have d1 := decide_eq_true c1
      simp only [wk, wt, wl, ↓reduceIte, Nat.reduceEqDiff, Nat.reduceAdd, wz, t0, t1, t7, t8, d1]
      refine ⟨⟨_, rfl, ?_⟩, trivial⟩
      rw [decide_eq_true (show (0 : Int) ≤ (i : Int) by omega), List.any_eq_true.2 ⟨y, List.mem_of_getElem? hy, d1⟩]
    · have d1 := decide_eq_false c1
      simp only [wk, wt, wl, ↓reduceIte, Nat.reduceEqDiff, Nat.reduceAdd, wz, t0, t1, t7, t8, d1, wi, intOf_int]
      exact ⟨⟨i + 1, rfl, by omega, fun j z hj hz' => by
        by_cases ej : j = i
        · subst ej; rw [hy] at hz'; cases hz'; exact c1
        · exact hz j z (by omega) hz'⟩, by omega⟩
  · obtain rfl : i = xs.length := by omega
    simp only [wk, wt, wl, ↓reduceIte, Nat.reduceEqDiff, Nat.reduceAdd, wz]
    refine ⟨⟨_, rfl, ?_⟩, trivial⟩
    have : (xs.any fun y => decide (0 < widthZ y)) = false := List.any_eq_false.2 fun y hy => by
      obtain ⟨j, hj⟩ := List.mem_iff_getElem?.1 hy
      simpa using hz j y (List.getElem?_eq_some_iff.1 hj).1 hj
    rw [this]; rfl
theorem contF_ok {h : Heap} {v : Value} {xs : List Int} (R : RdI prog h .i32 v xs) (hR : ∀ y, y ∈ xs → isR y) (G : Gl h) (hl : xs.length ≤ 1000000000) :
    ACalls prog 71 #[v, .func (.func 72) #[] #[]] h (fun y h' => y = .bool (xs.any fun y => decide (0 < widthZ y)) ∧ h' = h) := by
  refine acalls_of_W func71 rfl (by kernel_rfl) (by kernel_rfl) (by simp [ntmps71]) ?_
  simp only [wk, wt, wl, ↓reduceIte, Nat.reduceEqDiff, Nat.reduceAdd, wz]
  refine (idxF_ok R hR G hl).use ?_
  rintro _ _ ⟨⟨z, rfl, hz⟩, hh⟩
  obtain rfl := hh.symm
  simp only [wk, wt, wl, ↓reduceIte, Nat.reduceEqDiff, Nat.reduceAdd, wz, hz]
theorem next_lt {i : Nat} {n R C : Int} (hC : 2 ≤ C) (hn : n = R * C) (hi : (i : Int) < n) (hm : (i : Int) % C < C - 1) : (i : Int) + 1 < n := by
  have h1 := Int.emod_add_mul_ediv (i : Int) C
  have h2 := Int.emod_nonneg (i : Int) (show C ≠ 0 by omega)
  have h3 : (i : Int) / C < R := by
    rcases Int.lt_or_le ((i : Int) / C) R with h | h
    · exact h
    · have := Int.mul_le_mul_of_nonneg_left h (show 0 ≤ C by omega)
      rw [Int.mul_comm C R, ← hn] at this
      omega
  have h4 : C * ((i : Int) / C + 1) ≤ C * R := Int.mul_le_mul_of_nonneg_left (by omega) (by omega)
  rw [Int.mul_add, Int.mul_comm C R, ← hn] at h4
  omega
theorem rightQ_ok {h : Heap} {cv : Value} {g : GM} {i : Nat} {c : Cel} (A : GR h cv g.l) (Gb : Gl h) (hi : g.l[i]? = some c) (hT : TxR g.l) (hr : 2 ≤ g.R ∧ g.R ≤ 500) (hc : 2 ≤ g.C ∧ g.C ≤ 1000) (hn : (g.l.length : Int) = g.R * g.C) :
    ACalls prog 48 #[mV g cv, .int .i64 (i : Int)] h (fun y h' => y = .bool (cellQ g.C g.l i) ∧ Keeps h h') := by
  refine acalls_of_W' func48 rfl (by kernel_rfl) (by kernel_rfl) (by simp [ntmps48]) ?_
  intro H
  have oc := A.one
  have hbd := mul_bd hr.1 hr.2 hc.1 hc.2
  have hmx : g.R * g.C ≤ 500000 := by
    have a : g.R * g.C ≤ 500 * g.C := Int.mul_le_mul_of_nonneg_right hr.2 (by omega)
    omega
  have hil := (List.getElem?_eq_some_iff.1 hi).1
  obtain ⟨hcR, hcl⟩ := hT c (List.mem_of_getElem? hi)
  have N1 := Keeps.new H 24 (mC g cv)
  have V1 := Var.new (e := 24) H (cs := mC g cv)
  obtain ⟨a0, a1, a2, a3, a4, _⟩ := grid_load V1
  obtain ⟨ta, RA, LA, IA, _⟩ := (A.keeps N1).at hi
  have oa : one ta = true := Rd.one RA
  obtain ⟨h3, e3, V3, K3, z3⟩ := cell_var (Ch.wf N1) (c := c) oa
  have hz1 : (h.new 24 (mC g cv)).size = h.size + 1 := rfl
  have V13 := Keeps.var (Ch.wf N1) K3 V1
  have K03 := N1.trans K3
  obtain ⟨b0, b1, b2, _⟩ := cell_load V3
  obtain ⟨_, g1, g2, _⟩ := grid_load V13
  have RT := RA.keeps K3
  have LT := RT.len underlying43
  have hX0 : g.C ≠ 0 := by omega
  have RM := abin_rem (P := prog) (t := 3) (k := .i64) (x := (i : Int)) (y := g.C) hX0
  rw [tmod_mod] at RM
  have hmod := Int.emod_nonneg (i : Int) hX0
  have hmod2 := Int.emod_lt_of_pos (i : Int) (show 0 < g.C by omega)
  have wr : IntKind.i64.wrap ((i : Int) % g.C) = (i : Int) % g.C := IntWalk.i64_in _ (by omega)
  have wc : IntKind.i64.wrap (g.C - 1) = g.C - 1 := IntWalk.i64_in _ (by omega)
  have hq : cellQ g.C g.l i = (decide (c.ar = 0 ∨ c.ar = 1) && (if c.tx = [] then !c.wd && (decide ((i : Int) % g.C ≠ 0) && (g.l[i - 1]?.any fun d => d.wd && decide (d.ar = c.ar)))
      else letQ c && (!c.wd || (decide ((i : Int) % g.C < g.C - 1) && g.l[i + 1]?.any fun d => decide (d.tx = []))))) := by unfold cellQ; rw [hi]
  rw [hq]
  rw [hz1] at e3 b0 b1 b2
  simp only [wk, wt, wl, ↓reduceIte, Nat.reduceEqDiff, Nat.reduceAdd, wz, aeff_box, boxV_mgrid oc, newSz, pt, a2, IA, LA, e3, b1]
  by_cases ca : c.ar = 0 ∨ c.ar = 1
  case neg =>
    have d1 : decide (¬ c.ar = 0) = true := decide_eq_true fun e => ca (.inl e)
    have d2 : decide (¬ c.ar = 1) = true := decide_eq_true fun e => ca (.inr e)
    simp only [wk, wt, wl, ↓reduceIte, Nat.reduceEqDiff, Nat.reduceAdd, wz, d1, b1, d2]
    exact ⟨by simp [ca], K03⟩
  rw [decide_eq_true ca, Bool.true_and]
  have da : (decide (¬ c.ar = 0) = false) ∨ (decide (¬ c.ar = 0) = true ∧ decide (¬ c.ar = 1) = false) := by
    rcases ca with e | e <;> rw [e] <;> decide
  by_cases ct : c.tx = []
  · rw [if_pos ct]
    have d2 : decide ((c.tx.length : Int) = 0) = true := decide_eq_true (by rw [ct]; rfl)
    have go : ∀ {Q : Prop}, (da : (decide (¬ c.ar = 0) = false) ∨ (decide (¬ c.ar = 0) = true ∧ decide (¬ c.ar = 1) = false)) → Q → Q := fun _ q => q
    cases hw : c.wd with
    | true =>
      rw [hw] at b2
      rcases da with d1 | ⟨d1, d1'⟩
      · simp only [wk, wt, wl, ↓reduceIte, Nat.reduceEqDiff, Nat.reduceAdd, wz, b1, d1, b0, LT, d2]
        refine adraw_order [(0, false), (1, false), (2, false), (3, false), (4, false), (5, false), (6, false), (7, false), (8, false), (9, false), (10, false), (11, false), (12, false), (13, false), (14, false), (15, false), (16, false), (17, false), (18, false), (19, false), (20, false), (21, false), (22, false), (23, false), (24, false), (25, false), (26, false), (27, false), (28, false), (29, false), (30, false), (31, false)] mixed (by kernel_rfl) (by kernel_rfl) (by kernel_rfl) (by with_reducible repeat (first | exact PF_retK | refine PF_thenK ?_ | refine PF_blockK ?_)) ?_
        simp only [wk, wt, wl, ↓reduceIte, Nat.reduceEqDiff, Nat.reduceAdd, wz, dK_t, b2, Bool.not_true]
        first
          | exact ⟨rfl, K03⟩
          | (simp only [Bool.false_and]; exact ⟨trivial, K03⟩)
          | (simp; exact K03)
      · simp only [wk, wt, wl, ↓reduceIte, Nat.reduceEqDiff, Nat.reduceAdd, wz, b1, d1, d1', b0, LT, d2]
        refine adraw_order [(0, false), (1, false), (2, false), (3, false), (4, false), (5, false), (6, false), (7, false), (8, false), (9, false), (10, false), (11, false), (12, false), (13, false), (14, false), (15, false), (16, false), (17, false), (18, false), (19, false), (20, false), (21, false), (22, false), (23, false), (24, false), (25, false), (26, false), (27, false), (28, false), (29, false), (30, false), (31, false)] mixed (by kernel_rfl) (by kernel_rfl) (by kernel_rfl) (by with_reducible repeat (first | exact PF_retK | refine PF_thenK ?_ | refine PF_blockK ?_)) ?_
        simp only [wk, wt, wl, ↓reduceIte, Nat.reduceEqDiff, Nat.reduceAdd, wz, dK_t, b2, Bool.not_true]
        first
          | exact ⟨rfl, K03⟩
          | (simp only [Bool.false_and]; exact ⟨trivial, K03⟩)
          | (simp; exact K03)
    | false =>
      rw [hw] at b2
      by_cases cm : (i : Int) % g.C = 0
      · have d3 : decide (0 < (i : Int) % g.C) = false := decide_eq_false (by omega)
        have hR : (!false && (decide ((i : Int) % g.C ≠ 0) && (g.l[i - 1]?.any fun d => d.wd && decide (d.ar = c.ar)))) = false := by simp [cm]
        rw [hR]
        rcases da with d1 | ⟨d1, d1'⟩
        · simp only [wk, wt, wl, ↓reduceIte, Nat.reduceEqDiff, Nat.reduceAdd, wz, b1, d1, b0, LT, d2]
          refine adraw_order [(0, false), (1, false), (2, false), (3, false), (4, false), (5, false), (6, false), (7, false), (8, false), (9, false), (10, false), (11, false), (12, false), (13, false), (14, false), (15, false), (16, false), (17, false), (18, false), (19, false), (20, false), (21, false), (22, false), (23, false), (24, false), (25, false), (26, false), (27, false), (28, false), (29, false), (30, false), (31, false)] mixed (by kernel_rfl) (by kernel_rfl) (by kernel_rfl) (by with_reducible repeat (first | exact PF_retK | refine PF_thenK ?_ | refine PF_blockK ?_)) ?_
          simp only [wk, wt, wl, ↓reduceIte, Nat.reduceEqDiff, Nat.reduceAdd, wz, dK_t, b2, Bool.not_false, g1, RM, wr, d3]
          exact K03
        · simp only [wk, wt, wl, ↓reduceIte, Nat.reduceEqDiff, Nat.reduceAdd, wz, b1, d1, d1', b0, LT, d2]
          refine adraw_order [(0, false), (1, false), (2, false), (3, false), (4, false), (5, false), (6, false), (7, false), (8, false), (9, false), (10, false), (11, false), (12, false), (13, false), (14, false), (15, false), (16, false), (17, false), (18, false), (19, false), (20, false), (21, false), (22, false), (23, false), (24, false), (25, false), (26, false), (27, false), (28, false), (29, false), (30, false), (31, false)] mixed (by kernel_rfl) (by kernel_rfl) (by kernel_rfl) (by with_reducible repeat (first | exact PF_retK | refine PF_thenK ?_ | refine PF_blockK ?_)) ?_
          simp only [wk, wt, wl, ↓reduceIte, Nat.reduceEqDiff, Nat.reduceAdd, wz, dK_t, b2, Bool.not_false, g1, RM, wr, d3]
          exact K03
      · have d3 : decide (0 < (i : Int) % g.C) = true := decide_eq_true (by omega)
        have hi0 : 1 ≤ i := by
          rcases Nat.eq_zero_or_pos i with e | e
          · subst e; exact absurd (Int.zero_emod g.C) cm
          · exact e
        obtain ⟨d, hd⟩ : ∃ d, g.l[i - 1]? = some d := ⟨_, List.getElem?_eq_getElem (by omega)⟩
        obtain ⟨td, RD, LD, ID, _, dar, dwd⟩ := ((A.keeps N1).keeps K3).at hd
        have wj : IntKind.i64.wrap ((i : Int) - 1) = ((i - 1 : Nat) : Int) := by rw [IntWalk.i64_in _ (by omega)]; omega
        have hR : (!false && (decide ((i : Int) % g.C ≠ 0) && (g.l[i - 1]?.any fun d => d.wd && decide (d.ar = c.ar)))) = (d.wd && decide (d.ar = c.ar)) := by simp [cm, hd]
        rw [hR]
        cases hdw : d.wd with
        | false =>
          rw [hdw] at dwd
          rcases da with d1 | ⟨d1, d1'⟩
          · simp only [wk, wt, wl, ↓reduceIte, Nat.reduceEqDiff, Nat.reduceAdd, wz, b1, d1, b0, LT, d2]
            refine adraw_order [(0, false), (1, false), (2, false), (3, false), (4, false), (5, false), (6, false), (7, false), (8, false), (9, false), (10, false), (11, false), (12, false), (13, false), (14, false), (15, false), (16, false), (17, false), (18, false), (19, false), (20, false), (21, false), (22, false), (23, false), (24, false), (25, false), (26, false), (27, false), (28, false), (29, false), (30, false), (31, false)] mixed (by kernel_rfl) (by kernel_rfl) (by kernel_rfl) (by with_reducible repeat (first | exact PF_retK | refine PF_thenK ?_ | refine PF_blockK ?_)) ?_
            simp only [wk, wt, wl, ↓reduceIte, Nat.reduceEqDiff, Nat.reduceAdd, wz, dK_t, b2, Bool.not_false, g1, RM, wr, d3, g2, wj, ID, dwd]
            exact ⟨rfl, K03⟩
          · simp only [wk, wt, wl, ↓reduceIte, Nat.reduceEqDiff, Nat.reduceAdd, wz, b1, d1, d1', b0, LT, d2]
            refine adraw_order [(0, false), (1, false), (2, false), (3, false), (4, false), (5, false), (6, false), (7, false), (8, false), (9, false), (10, false), (11, false), (12, false), (13, false), (14, false), (15, false), (16, false), (17, false), (18, false), (19, false), (20, false), (21, false), (22, false), (23, false), (24, false), (25, false), (26, false), (27, false), (28, false), (29, false), (30, false), (31, false)] mixed (by kernel_rfl) (by kernel_rfl) (by kernel_rfl) (by with_reducible repeat (first | exact PF_retK | refine PF_thenK ?_ | refine PF_blockK ?_)) ?_
            simp only [wk, wt, wl, ↓reduceIte, Nat.reduceEqDiff, Nat.reduceAdd, wz, dK_t, b2, Bool.not_false, g1, RM, wr, d3, g2, wj, ID, dwd]
            exact ⟨rfl, K03⟩
        | true =>
          rw [hdw] at dwd
          rcases da with d1 | ⟨d1, d1'⟩
          · simp only [wk, wt, wl, ↓reduceIte, Nat.reduceEqDiff, Nat.reduceAdd, wz, b1, d1, b0, LT, d2]
            refine adraw_order [(0, false), (1, false), (2, false), (3, false), (4, false), (5, false), (6, false), (7, false), (8, false), (9, false), (10, false), (11, false), (12, false), (13, false), (14, false), (15, false), (16, false), (17, false), (18, false), (19, false), (20, false), (21, false), (22, false), (23, false), (24, false), (25, false), (26, false), (27, false), (28, false), (29, false), (30, false), (31, false)] mixed (by kernel_rfl) (by kernel_rfl) (by kernel_rfl) (by with_reducible repeat (first | exact PF_retK | refine PF_thenK ?_ | refine PF_blockK ?_)) ?_
            simp only [wk, wt, wl, ↓reduceIte, Nat.reduceEqDiff, Nat.reduceAdd, wz, dK_t, b2, Bool.not_false, g1, RM, wr, d3, g2, wj, ID, dwd, dar, b1]
            exact ⟨by simp, K03⟩
          · simp only [wk, wt, wl, ↓reduceIte, Nat.reduceEqDiff, Nat.reduceAdd, wz, b1, d1, d1', b0, LT, d2]
            refine adraw_order [(0, false), (1, false), (2, false), (3, false), (4, false), (5, false), (6, false), (7, false), (8, false), (9, false), (10, false), (11, false), (12, false), (13, false), (14, false), (15, false), (16, false), (17, false), (18, false), (19, false), (20, false), (21, false), (22, false), (23, false), (24, false), (25, false), (26, false), (27, false), (28, false), (29, false), (30, false), (31, false)] mixed (by kernel_rfl) (by kernel_rfl) (by kernel_rfl) (by with_reducible repeat (first | exact PF_retK | refine PF_thenK ?_ | refine PF_blockK ?_)) ?_
            simp only [wk, wt, wl, ↓reduceIte, Nat.reduceEqDiff, Nat.reduceAdd, wz, dK_t, b2, Bool.not_false, g1, RM, wr, d3, g2, wj, ID, dwd, dar, b1]
            exact ⟨by simp, K03⟩
  · rw [if_neg ct]
    obtain ⟨r, m, e⟩ : ∃ r m, c.tx = r :: m := by
      cases e : c.tx with
      | nil => exact absurd e ct
      | cons r m => exact ⟨r, m, rfl⟩
    have hrr : isR r := hcR r (by rw [e]; simp)
    have hl1 : c.tx.length = m.length + 1 := by rw [e]; rfl
    have d2 : decide ((c.tx.length : Int) = 0) = false := decide_eq_false (by omega)
    have X0 : c.tx[0]? = some r := by rw [e]; rfl
    obtain ⟨IX, LX⟩ := RT.ix X0
    rw [Int.natCast_zero] at IX
    have lq : letQ c = (decide (showL r = [r]) && decide (widthZ r ≠ 0) && decide (decide (widthZ r = 2) = c.wd) && decide (m.length ≤ 2) && m.all fun y => decide (widthZ y = 0)) := by unfold letQ; rw [e]
    rw [lq]
    have G3 : Gl h3 := Gb.keeps K03
    have start : ∀ {Q : Prop}, Q → Q := id
    rcases da with d1 | ⟨d1, d1'⟩
    · simp only [wk, wt, wl, ↓reduceIte, Nat.reduceEqDiff, Nat.reduceAdd, wz, b1, d1, b0, LT, d2, IX, LX]
      refine (width_ok hrr G3).use_pure ?_
      simp only [wk, wt, wl, ↓reduceIte, Nat.reduceEqDiff, Nat.reduceAdd, wz]
      refine (show_ok hrr).use_pure ?_
      have N2 := Keeps.new (Ch.wf K03) 21 ((showL r).map (Value.int .i32))
      have R2 : RdI prog (h3.new 21 ((showL r).map (Value.int .i32))) .i32 (.slice (some ⟨h3.size, 0, none⟩) (showL r).length ((showL r).length + 1)) (showL r) := rdI_new (Ch.wf K03)
      have LL2 := R2.len underlying43
      have V32 := Keeps.var (Ch.wf K03) N2 V3
      rw [hz1] at V32
      have V12 := Keeps.var (Ch.wf K03) N2 V13
      have K2 := K03.trans N2
      have G2 := G3.keeps N2
      have RT2 := RT.keeps N2
      have AG2 := ((A.keeps N1).keeps K3).keeps N2
      clear IX LX b0 b1 b2 g1 g2 V3 V13
      obtain ⟨b0, b1, b2, _⟩ := cell_load V32
      obtain ⟨_, g1, g2, _⟩ := grid_load V12
      generalize h3.new 21 ((showL r).map (Value.int .i32)) = h2 at *
      have LT2 := RT2.len underlying43
      by_cases q4 : (showL r).length = 1
      case neg =>
        have d4 : decide (¬ (((showL r).length : Nat) : Int) = 1) = true := decide_eq_true (by omega)
        have hne : showL r ≠ [r] := fun e => q4 (by rw [e]; rfl)
        simp only [wk, wt, wl, ↓reduceIte, Nat.reduceEqDiff, Nat.reduceAdd, wz, LL2, d4]
        exact ⟨by simp [hne], K2⟩
      have d4 : decide (¬ (((showL r).length : Nat) : Int) = 1) = false := decide_eq_false (by omega)
      obtain ⟨s, hs⟩ : ∃ s, showL r = [s] := by
        match hq : showL r, q4 with
        | [s], _ => exact ⟨s, rfl⟩
      obtain ⟨IX2, LX2⟩ := R2.ix (i := 0) (x := s) (by rw [hs]; rfl)
      rw [Int.natCast_zero] at IX2
      by_cases q5 : s = r
      case neg =>
        have d5 : decide (¬ s = r) = true := decide_eq_true q5
        have hne : showL r ≠ [r] := fun e => q5 (by rw [hs] at e; simpa using e)
        simp only [wk, wt, wl, ↓reduceIte, Nat.reduceEqDiff, Nat.reduceAdd, wz, LL2, d4, IX2, LX2, d5]
        exact ⟨by simp [hne], K2⟩
      have hsr : showL r = [r] := by rw [hs, q5]
      have d5 : decide (¬ s = r) = false := decide_eq_false (fun h => h q5)
      by_cases q2 : widthZ r = 0
      · have d6 : decide (widthZ r = 0) = true := decide_eq_true q2
        simp only [wk, wt, wl, ↓reduceIte, Nat.reduceEqDiff, Nat.reduceAdd, wz, LL2, d4, IX2, LX2, d5, d6]
        exact ⟨by simp [q2], K2⟩
      have d6 : decide (widthZ r = 0) = false := decide_eq_false q2
      by_cases q1 : decide (widthZ r = 2) = c.wd
      case neg =>
        have d7 : abin prog .neq 4 (.bool (decide (widthZ r = 2))) (.bool c.wd) = some (.bool true) := by rw [neqB, decide_eq_false q1]; rfl
        simp only [wk, wt, wl, ↓reduceIte, Nat.reduceEqDiff, Nat.reduceAdd, wz, LL2, d4, IX2, LX2, d5, d6, b2, d7]
        exact ⟨by simp [q1], K2⟩
      have d7 : abin prog .neq 4 (.bool (decide (widthZ r = 2))) (.bool c.wd) = some (.bool false) := by rw [neqB, decide_eq_true q1]; rfl
      by_cases q3 : m.length ≤ 2
      case neg =>
        have d8 : decide ((3 : Int) < (c.tx.length : Int)) = true := decide_eq_true (by omega)
        simp only [wk, wt, wl, ↓reduceIte, Nat.reduceEqDiff, Nat.reduceAdd, wz, LL2, d4, IX2, LX2, d5, d6, b2, d7, b0, LT2, d8]
        exact ⟨by simp [q3], K2⟩
      have d8 : decide ((3 : Int) < (c.tx.length : Int)) = false := decide_eq_false (by omega)
      have SL := Rd.sliceLo RT2 underlying43 asz21 (q := .i64) (i := 1) (by omega) (by omega)
      have RS2 := RdI.partLo RT2 (L := 1) (by omega)
      have hdr : c.tx.drop 1 = m := by rw [e]; rfl
      rw [hdr] at RS2
      rw [show (1 : Int).toNat = 1 from rfl] at SL
      simp only [wk, wt, wl, ↓reduceIte, Nat.reduceEqDiff, Nat.reduceAdd, wz, LL2, d4, IX2, LX2, d5, d6, b2, d7, b0, LT2, d8, SL]
      refine (contF_ok RS2 (fun y hy => hcR y (by rw [e]; simp [hy])) G2 (by omega)).use_pure ?_
      by_cases q6 : (m.all fun y => decide (widthZ y = 0)) = true
      case neg =>
        have hany : (m.any fun y => decide (0 < widthZ y)) = true := by
          cases q : (m.any fun y => decide (0 < widthZ y)) with
          | true => rfl
          | false => exact absurd (List.all_eq_true.2 fun y hy => by
              have := List.any_eq_false.1 q y hy
              simp only [decide_eq_true_eq] at this ⊢
              rcases width_012 (r := y) with e | e | e <;> omega) q6
        simp only [wk, wt, wl, ↓reduceIte, Nat.reduceEqDiff, Nat.reduceAdd, wz, hany]
        exact ⟨by simp [q6], K2⟩
      have hany : (m.any fun y => decide (0 < widthZ y)) = false := List.any_eq_false.2 fun y hy => by
        have := of_decide_eq_true (List.all_eq_true.1 q6 y hy)
        simp only [decide_eq_true_eq]; omega
      have hb : (decide (showL r = [r]) && decide (widthZ r ≠ 0) && decide (decide (widthZ r = 2) = c.wd) && decide (m.length ≤ 2) && m.all fun y => decide (widthZ y = 0)) = true := by
        rw [decide_eq_true hsr, decide_eq_true (show widthZ r ≠ 0 from q2), decide_eq_true q1, decide_eq_true q3, q6]; rfl
      rw [hb, Bool.true_and]
      simp only [wk, wt, wl, ↓reduceIte, Nat.reduceEqDiff, Nat.reduceAdd, wz, hany]
      refine adraw_order [(0, false), (1, false), (2, false), (3, false), (4, false), (5, false), (6, false), (7, false), (8, false), (9, false), (10, false), (11, false), (12, false), (13, false), (14, false), (15, false), (16, false), (17, false), (18, false), (19, false), (20, false), (21, false), (22, false), (23, false), (24, false)] mixed (by kernel_rfl) (by kernel_rfl) (by kernel_rfl) (by with_reducible repeat (first | exact PF_retK | refine PF_thenK ?_ | refine PF_blockK ?_)) ?_
      cases hw : c.wd with
      | false =>
        rw [hw] at b2
        simp only [wk, wt, wl, ↓reduceIte, Nat.reduceEqDiff, Nat.reduceAdd, wz, dK_t, b2, Bool.not_false]
        exact ⟨rfl, K2⟩
      | true =>
        rw [hw] at b2
        by_cases q7 : (i : Int) % g.C < g.C - 1
        case neg =>
          have d9 : decide ((i : Int) % g.C < g.C - 1) = false := decide_eq_false q7
          simp only [wk, wt, wl, ↓reduceIte, Nat.reduceEqDiff, Nat.reduceAdd, wz, dK_t, b2, Bool.not_true, g1, RM, wr, wc, d9]
          exact ⟨by simp [q7], K2⟩
        have d9 : decide ((i : Int) % g.C < g.C - 1) = true := decide_eq_true q7
        have hnx := next_lt hc.1 hn (by omega) q7
        obtain ⟨d, hd⟩ : ∃ d, g.l[i + 1]? = some d := ⟨_, List.getElem?_eq_getElem (by omega)⟩
        obtain ⟨td, RD, LD, ID, dtx, _⟩ := AG2.at hd
        have wj : IntKind.i64.wrap ((i : Int) + 1) = ((i + 1 : Nat) : Int) := by rw [IntWalk.i64_in _ (by omega)]; omega
        have LDn := RD.len underlying43
        have dtx0 : aload prog h2 43 ⟨(eltA cv 3 (i + 1)).block, (eltA cv 3 (i + 1)).off + 0, none⟩ = some td := by rw [eltA_eta]; exact dtx
        simp only [wk, wt, wl, ↓reduceIte, Nat.reduceEqDiff, Nat.reduceAdd, wz, dK_t, b2, Bool.not_true, g1, RM, wr, wc, d9, g2, wj, ID, dtx0, LDn]
        refine ⟨?_, K2⟩
        have : (decide ((i : Int) % g.C < g.C - 1) && g.l[i + 1]?.any fun d => decide (d.tx = [])) = decide (d.tx = []) := by simp [q7, hd]
        simp only [Bool.not_true, Bool.false_or, this]
        by_cases q8 : d.tx = []
        · simp [q8, hd]
        · have : ¬ (d.tx.length : Int) = 0 := by
            have := List.length_pos_iff.2 q8
            omega
          simp [q8, hd]
    · simp only [wk, wt, wl, ↓reduceIte, Nat.reduceEqDiff, Nat.reduceAdd, wz, b1, d1, d1', b0, LT, d2, IX, LX]
      refine (width_ok hrr G3).use_pure ?_
      simp only [wk, wt, wl, ↓reduceIte, Nat.reduceEqDiff, Nat.reduceAdd, wz]
      refine (show_ok hrr).use_pure ?_
      have N2 := Keeps.new (Ch.wf K03) 21 ((showL r).map (Value.int .i32))
      have R2 : RdI prog (h3.new 21 ((showL r).map (Value.int .i32))) .i32 (.slice (some ⟨h3.size, 0, none⟩) (showL r).length ((showL r).length + 1)) (showL r) := rdI_new (Ch.wf K03)
      have LL2 := R2.len underlying43
      have V32 := Keeps.var (Ch.wf K03) N2 V3
      rw [hz1] at V32
      have V12 := Keeps.var (Ch.wf K03) N2 V13
      have K2 := K03.trans N2
      have G2 := G3.keeps N2
      have RT2 := RT.keeps N2
      have AG2 := ((A.keeps N1).keeps K3).keeps N2
      clear IX LX b0 b1 b2 g1 g2 V3 V13
      obtain ⟨b0, b1, b2, _⟩ := cell_load V32
      obtain ⟨_, g1, g2, _⟩ := grid_load V12
      generalize h3.new 21 ((showL r).map (Value.int .i32)) = h2 at *
      have LT2 := RT2.len underlying43
      by_cases q4 : (showL r).length = 1
      case neg =>
        have d4 : decide (¬ (((showL r).length : Nat) : Int) = 1) = true := decide_eq_true (by omega)
        have hne : showL r ≠ [r] := fun e => q4 (by rw [e]; rfl)
        simp only [wk, wt, wl, ↓reduceIte, Nat.reduceEqDiff, Nat.reduceAdd, wz, LL2, d4]
        exact ⟨by simp [hne], K2⟩
      have d4 : decide (¬ (((showL r).length : Nat) : Int) = 1) = false := decide_eq_false (by omega)
      obtain ⟨s, hs⟩ : ∃ s, showL r = [s] := by
        match hq : showL r, q4 with
        | [s], _ => exact ⟨s, rfl⟩
      obtain ⟨IX2, LX2⟩ := R2.ix (i := 0) (x := s) (by rw [hs]; rfl)
      rw [Int.natCast_zero] at IX2
      by_cases q5 : s = r
      case neg =>
        have d5 : decide (¬ s = r) = true := decide_eq_true q5
        have hne : showL r ≠ [r] := fun e => q5 (by rw [hs] at e; simpa using e)
        simp only [wk, wt, wl, ↓reduceIte, Nat.reduceEqDiff, Nat.reduceAdd, wz, LL2, d4, IX2, LX2, d5]
        exact ⟨by simp [hne], K2⟩
      have hsr : showL r = [r] := by rw [hs, q5]
      have d5 : decide (¬ s = r) = false := decide_eq_false (fun h => h q5)
      by_cases q2 : widthZ r = 0
      · have d6 : decide (widthZ r = 0) = true := decide_eq_true q2
        simp only [wk, wt, wl, ↓reduceIte, Nat.reduceEqDiff, Nat.reduceAdd, wz, LL2, d4, IX2, LX2, d5, d6]
        exact ⟨by simp [q2], K2⟩
      have d6 : decide (widthZ r = 0) = false := decide_eq_false q2
      by_cases q1 : decide (widthZ r = 2) = c.wd
      case neg =>
        have d7 : abin prog .neq 4 (.bool (decide (widthZ r = 2))) (.bool c.wd) = some (.bool true) := by rw [neqB, decide_eq_false q1]; rfl
        simp only [wk, wt, wl, ↓reduceIte, Nat.reduceEqDiff, Nat.reduceAdd, wz, LL2, d4, IX2, LX2, d5, d6, b2, d7]
        exact ⟨by simp [q1], K2⟩
      have d7 : abin prog .neq 4 (.bool (decide (widthZ r = 2))) (.bool c.wd) = some (.bool false) := by rw [neqB, decide_eq_true q1]; rfl
      by_cases q3 : m.length ≤ 2
      case neg =>
        have d8 : decide ((3 : Int) < (c.tx.length : Int)) = true := decide_eq_true (by omega)
        simp only [wk, wt, wl, ↓reduceIte, Nat.reduceEqDiff, Nat.reduceAdd, wz, LL2, d4, IX2, LX2, d5, d6, b2, d7, b0, LT2, d8]
        exact ⟨by simp [q3], K2⟩
      have d8 : decide ((3 : Int) < (c.tx.length : Int)) = false := decide_eq_false (by omega)
      have SL := Rd.sliceLo RT2 underlying43 asz21 (q := .i64) (i := 1) (by omega) (by omega)
      have RS2 := RdI.partLo RT2 (L := 1) (by omega)
      have hdr : c.tx.drop 1 = m := by rw [e]; rfl
      rw [hdr] at RS2
      rw [show (1 : Int).toNat = 1 from rfl] at SL
      simp only [wk, wt, wl, ↓reduceIte, Nat.reduceEqDiff, Nat.reduceAdd, wz, LL2, d4, IX2, LX2, d5, d6, b2, d7, b0, LT2, d8, SL]
      refine (contF_ok RS2 (fun y hy => hcR y (by rw [e]; simp [hy])) G2 (by omega)).use_pure ?_
      by_cases q6 : (m.all fun y => decide (widthZ y = 0)) = true
      case neg =>
        have hany : (m.any fun y => decide (0 < widthZ y)) = true := by
          cases q : (m.any fun y => decide (0 < widthZ y)) with
          | true => rfl
          | false => exact absurd (List.all_eq_true.2 fun y hy => by
              have := List.any_eq_false.1 q y hy
              simp only [decide_eq_true_eq] at this ⊢
              rcases width_012 (r := y) with e | e | e <;> omega) q6
        simp only [wk, wt, wl, ↓reduceIte, Nat.reduceEqDiff, Nat.reduceAdd, wz, hany]
        exact ⟨by simp [q6], K2⟩
      have hany : (m.any fun y => decide (0 < widthZ y)) = false := List.any_eq_false.2 fun y hy => by
        have := of_decide_eq_true (List.all_eq_true.1 q6 y hy)
        simp only [decide_eq_true_eq]; omega
      have hb : (decide (showL r = [r]) && decide (widthZ r ≠ 0) && decide (decide (widthZ r = 2) = c.wd) && decide (m.length ≤ 2) && m.all fun y => decide (widthZ y = 0)) = true := by
        rw [decide_eq_true hsr, decide_eq_true (show widthZ r ≠ 0 from q2), decide_eq_true q1, decide_eq_true q3, q6]; rfl
      rw [hb, Bool.true_and]
      simp only [wk, wt, wl, ↓reduceIte, Nat.reduceEqDiff, Nat.reduceAdd, wz, hany]
      refine adraw_order [(0, false), (1, false), (2, false), (3, false), (4, false), (5, false), (6, false), (7, false), (8, false), (9, false), (10, false), (11, false), (12, false), (13, false), (14, false), (15, false), (16, false), (17, false), (18, false), (19, false), (20, false), (21, false), (22, false), (23, false), (24, false)] mixed (by kernel_rfl) (by kernel_rfl) (by kernel_rfl) (by with_reducible repeat (first | exact PF_retK | refine PF_thenK ?_ | refine PF_blockK ?_)) ?_
      cases hw : c.wd with
      | false =>
        rw [hw] at b2
        simp only [wk, wt, wl, ↓reduceIte, Nat.reduceEqDiff, Nat.reduceAdd, wz, dK_t, b2, Bool.not_false]
        exact ⟨rfl, K2⟩
      | true =>
        rw [hw] at b2
        by_cases q7 : (i : Int) % g.C < g.C - 1
        case neg =>
          have d9 : decide ((i : Int) % g.C < g.C - 1) = false := decide_eq_false q7
          simp only [wk, wt, wl, ↓reduceIte, Nat.reduceEqDiff, Nat.reduceAdd, wz, dK_t, b2, Bool.not_true, g1, RM, wr, wc, d9]
          exact ⟨by simp [q7], K2⟩
        have d9 : decide ((i : Int) % g.C < g.C - 1) = true := decide_eq_true q7
        have hnx := next_lt hc.1 hn (by omega) q7
        obtain ⟨d, hd⟩ : ∃ d, g.l[i + 1]? = some d := ⟨_, List.getElem?_eq_getElem (by omega)⟩
        obtain ⟨td, RD, LD, ID, dtx, _⟩ := AG2.at hd
        have wj : IntKind.i64.wrap ((i : Int) + 1) = ((i + 1 : Nat) : Int) := by rw [IntWalk.i64_in _ (by omega)]; omega
        have LDn := RD.len underlying43
        have dtx0 : aload prog h2 43 ⟨(eltA cv 3 (i + 1)).block, (eltA cv 3 (i + 1)).off + 0, none⟩ = some td := by rw [eltA_eta]; exact dtx
        simp only [wk, wt, wl, ↓reduceIte, Nat.reduceEqDiff, Nat.reduceAdd, wz, dK_t, b2, Bool.not_true, g1, RM, wr, wc, d9, g2, wj, ID, dtx0, LDn]
        refine ⟨?_, K2⟩
        have : (decide ((i : Int) % g.C < g.C - 1) && g.l[i + 1]?.any fun d => decide (d.tx = [])) = decide (d.tx = []) := by simp [q7, hd]
        simp only [Bool.not_true, Bool.false_or, this]
        by_cases q8 : d.tx = []
        · simp [q8, hd]
        · have : ¬ (d.tx.length : Int) = 0 := by
            have := List.length_pos_iff.2 q8
            omega
          simp [q8, hd]
theorem wholeQ_ok {h : Heap} {cv : Value} {g : GM} (A : GR h cv g.l) (Gb : Gl h) (hT : TxR g.l) (hl : g.l.length ≤ 1000000000) :
    ACalls prog 24 #[mV g cv] h (fun y h' => y = .bool (wholeB g) ∧ Keeps h h') := by
  refine acalls_of_W' func24 rfl (by kernel_rfl) (by kernel_rfl) (by simp [ntmps24]) ?_
  intro H
  have oc := A.one
  have N1 := Keeps.new H 24 (mC g cv)
  have V1 := Var.new (e := 24) H (cs := mC g cv)
  obtain ⟨a0, a1, a2, a3, a4, _⟩ := grid_load V1
  have GL := (A.keeps N1).len
  by_cases c1 : 2 ≤ g.R
  case neg =>
    have e1 : decide (g.R < 2) = true := decide_eq_true (by omega)
    simp only [wk, wt, wl, ↓reduceIte, Nat.reduceEqDiff, Nat.reduceAdd, wz, aeff_box, boxV_mgrid oc, pt, a0, a1, a2, a3, a4, GL, e1]
    exact ⟨by rw [show wholeB g = false from by unfold wholeB; simp [c1]], N1⟩
  have e1 : decide (g.R < 2) = false := decide_eq_false (by omega)
  by_cases c2 : g.R ≤ 500
  case neg =>
    have e2 : decide (500 < g.R) = true := decide_eq_true (by omega)
    simp only [wk, wt, wl, ↓reduceIte, Nat.reduceEqDiff, Nat.reduceAdd, wz, aeff_box, boxV_mgrid oc, pt, a0, a1, a2, a3, a4, GL, e1, e2]
    exact ⟨by rw [show wholeB g = false from by unfold wholeB; simp [c2]], N1⟩
  have e2 : decide (500 < g.R) = false := decide_eq_false (by omega)
  by_cases c3 : 2 ≤ g.C
  case neg =>
    have e3 : decide (g.C < 2) = true := decide_eq_true (by omega)
    simp only [wk, wt, wl, ↓reduceIte, Nat.reduceEqDiff, Nat.reduceAdd, wz, aeff_box, boxV_mgrid oc, pt, a0, a1, a2, a3, a4, GL, e1, e2, e3]
    exact ⟨by rw [show wholeB g = false from by unfold wholeB; simp [c3]], N1⟩
  have e3 : decide (g.C < 2) = false := decide_eq_false (by omega)
  by_cases c4 : g.C ≤ 1000
  case neg =>
    have e4 : decide (1000 < g.C) = true := decide_eq_true (by omega)
    simp only [wk, wt, wl, ↓reduceIte, Nat.reduceEqDiff, Nat.reduceAdd, wz, aeff_box, boxV_mgrid oc, pt, a0, a1, a2, a3, a4, GL, e1, e2, e3, e4]
    exact ⟨by rw [show wholeB g = false from by unfold wholeB; simp [c4]], N1⟩
  have e4 : decide (1000 < g.C) = false := decide_eq_false (by omega)
  by_cases c5 : (g.l.length : Int) = g.R * g.C
  case neg =>
    have e5 : decide (¬ (g.l.length : Int) = g.R * g.C) = true := decide_eq_true (by omega)
    have wm : IntKind.i64.wrap (g.R * g.C) = g.R * g.C := IntWalk.i64_in _ (mul_bd c1 c2 c3 c4)
    simp only [wk, wt, wl, ↓reduceIte, Nat.reduceEqDiff, Nat.reduceAdd, wz, aeff_box, boxV_mgrid oc, pt, a0, a1, a2, a3, a4, GL, e1, e2, e3, e4, e5, wm]
    exact ⟨by rw [show wholeB g = false from by unfold wholeB; simp [c5]], N1⟩
  have e5 : decide (¬ (g.l.length : Int) = g.R * g.C) = false := decide_eq_false (by omega)
  by_cases c6 : 0 ≤ g.y
  case neg =>
    have e6 : decide (g.y < 0) = true := decide_eq_true (by omega)
    have wm : IntKind.i64.wrap (g.R * g.C) = g.R * g.C := IntWalk.i64_in _ (mul_bd c1 c2 c3 c4)
    simp only [wk, wt, wl, ↓reduceIte, Nat.reduceEqDiff, Nat.reduceAdd, wz, aeff_box, boxV_mgrid oc, pt, a0, a1, a2, a3, a4, GL, e1, e2, e3, e4, e5, e6, wm]
    exact ⟨by rw [show wholeB g = false from by unfold wholeB; simp [c6]], N1⟩
  have e6 : decide (g.y < 0) = false := decide_eq_false (by omega)
  by_cases c7 : g.y < g.R
  case neg =>
    have e7 : decide (g.R ≤ g.y) = true := decide_eq_true (by omega)
    have wm : IntKind.i64.wrap (g.R * g.C) = g.R * g.C := IntWalk.i64_in _ (mul_bd c1 c2 c3 c4)
    simp only [wk, wt, wl, ↓reduceIte, Nat.reduceEqDiff, Nat.reduceAdd, wz, aeff_box, boxV_mgrid oc, pt, a0, a1, a2, a3, a4, GL, e1, e2, e3, e4, e5, e6, e7, wm]
    exact ⟨by rw [show wholeB g = false from by unfold wholeB; simp [c7]], N1⟩
  have e7 : decide (g.R ≤ g.y) = false := decide_eq_false (by omega)
  by_cases c8 : 0 ≤ g.x
  case neg =>
    have e8 : decide (g.x < 0) = true := decide_eq_true (by omega)
    have wm : IntKind.i64.wrap (g.R * g.C) = g.R * g.C := IntWalk.i64_in _ (mul_bd c1 c2 c3 c4)
    simp only [wk, wt, wl, ↓reduceIte, Nat.reduceEqDiff, Nat.reduceAdd, wz, aeff_box, boxV_mgrid oc, pt, a0, a1, a2, a3, a4, GL, e1, e2, e3, e4, e5, e6, e7, e8, wm]
    exact ⟨by rw [show wholeB g = false from by unfold wholeB; simp [c8]], N1⟩
  have e8 : decide (g.x < 0) = false := decide_eq_false (by omega)
  by_cases c9 : g.x < g.C
  case neg =>
    have e9 : decide (g.C ≤ g.x) = true := decide_eq_true (by omega)
    have wm : IntKind.i64.wrap (g.R * g.C) = g.R * g.C := IntWalk.i64_in _ (mul_bd c1 c2 c3 c4)
    simp only [wk, wt, wl, ↓reduceIte, Nat.reduceEqDiff, Nat.reduceAdd, wz, aeff_box, boxV_mgrid oc, pt, a0, a1, a2, a3, a4, GL, e1, e2, e3, e4, e5, e6, e7, e8, e9, wm]
    exact ⟨by rw [show wholeB g = false from by unfold wholeB; simp [c9]], N1⟩
  have e9 : decide (g.C ≤ g.x) = false := decide_eq_false (by omega)
  have wm : IntKind.i64.wrap (g.R * g.C) = g.R * g.C := IntWalk.i64_in _ (mul_bd c1 c2 c3 c4)
  simp only [wk, wt, wl, ↓reduceIte, Nat.reduceEqDiff, Nat.reduceAdd, wz, aeff_box, boxV_mgrid oc, pt, a0, a1, a2, a3, a4, GL, e1, e2, e3, e4, e5, e6, e7, e8, e9, wm]
  have hq : wholeB g = (List.range g.l.length).all fun i => cellQ g.C g.l i := by
    unfold wholeB
    simp only [decide_eq_true c1, decide_eq_true c2, decide_eq_true c3, decide_eq_true c4, decide_eq_true c5, decide_eq_true c6, decide_eq_true c7, decide_eq_true c8, decide_eq_true c9, Bool.true_and]
  rw [hq]
  refine W_loop (fun tm hh => Keeps h hh ∧ tm 1 = pt h.size ∧ Var hh h.size (mC g cv) ∧ tm 59 = .int .i64 (g.l.length : Int) ∧ ∃ i : Nat, tm 60 = .int .i64 (i : Int) ∧ i ≤ g.l.length ∧ ∀ j, j < i → cellQ g.C g.l j = true) (fun tm _ => (g.l.length - intOf (tm 60)).toNat) ⟨N1, (by first | rfl | (simp only [wk, wt, wl, ↓reduceIte, Nat.reduceEqDiff, Nat.reduceAdd, wz]; done) | (simp only [wk, wt, wl, ↓reduceIte, Nat.reduceEqDiff, Nat.reduceAdd, wz]; rfl) | (simp only [wk, wt, wl, ↓reduceIte, Nat.reduceEqDiff, Nat.reduceAdd, wz, pt]; done) | (simp only [wk, wt, wl, ↓reduceIte, Nat.reduceEqDiff, Nat.reduceAdd, wz, pt]; rfl)), V1, (by first | rfl | (simp only [wk, wt, wl, ↓reduceIte, Nat.reduceEqDiff, Nat.reduceAdd, wz]; done) | (simp only [wk, wt, wl, ↓reduceIte, Nat.reduceEqDiff, Nat.reduceAdd, wz]; rfl)), 0, (by first | rfl | (simp only [wk, wt, wl, ↓reduceIte, Nat.reduceEqDiff, Nat.reduceAdd, wz]; done) | (simp only [wk, wt, wl, ↓reduceIte, Nat.reduceEqDiff, Nat.reduceAdd, wz]; rfl)), by omega, fun j hj => by omega⟩ ?_
  rintro tm hh ⟨K, t1, W1, t59, i, t60, hi, hz⟩
  obtain ⟨_, _, _, _, _, r5⟩ := grid_load W1
  simp only [wk, wt, wl, ↓reduceIte, Nat.reduceEqDiff, Nat.reduceAdd, wz, t1, t59, t60, pt]
  refine condK_dec (fun hd => ?_) (fun hd => ?_)
  · have hi1 : i < g.l.length := by omega
    obtain ⟨x, hxi⟩ : ∃ x, g.l[i]? = some x := ⟨_, List.getElem?_eq_getElem hi1⟩
    have wi : IntKind.i64.wrap ((i : Int) + 1) = ((i + 1 : Nat) : Int) := by rw [IntWalk.i64_in _ (by omega)]; omega
    simp only [wk, wt, wl, ↓reduceIte, Nat.reduceEqDiff, Nat.reduceAdd, wz, t1, t59, t60, pt, r5]
    refine (rightQ_ok (A.keeps K) (Gb.keeps K) hxi hT ⟨c1, c2⟩ ⟨c3, c4⟩ c5).use ?_
    rintro _ h5 ⟨rfl, K5⟩
    cases hcq : cellQ g.C g.l i with
    | true =>
      simp only [wk, wt, wl, ↓reduceIte, Nat.reduceEqDiff, Nat.reduceAdd, wz, t1, t59, t60, pt, Bool.not_true, wi, intOf_int]
      exact ⟨⟨K.trans K5, Keeps.var (Ch.wf K) K5 W1, i + 1, rfl, by omega, fun j hj => by
        by_cases ej : j = i
        · subst ej; exact hcq
        · exact hz j (by omega)⟩, by omega⟩
    | false =>
      simp only [wk, wt, wl, ↓reduceIte, Nat.reduceEqDiff, Nat.reduceAdd, wz, t1, t59, t60, pt, Bool.not_false]
      exact ⟨by rw [range_not hi1 hcq], K.trans K5⟩
  · obtain rfl : i = g.l.length := by omega
    simp only [wk, wt, wl, ↓reduceIte, Nat.reduceEqDiff, Nat.reduceAdd, wz]
    exact ⟨by rw [range_all hz], K⟩
end Go.Proofs.YthmpaddhmgnkbaaDoor.Am
end
section
/- Right grids, decided: the contract of the document's Right, by a walk. -/
set_option linter.unusedSimpArgs false
set_option linter.unusedVariables false
set_option maxHeartbeats 8000000
set_option maxRecDepth 20000
namespace Go.Proofs.YthmpaddhmgnkbaaDoor.Am
open Go Go.RowKit Go.Proofs.Tryd
theorem refRightQ_ok {h : Heap} {cv : Value} {g : GM} (A : GR h cv g.l) (hT : TxR g.l) (hl : g.l.length ≤ 1000000000) :
    ACalls prog 9 #[mV g cv] h (fun y h' => y = .bool (wholeB g) ∧ Keeps h h') := by
  refine acalls_of_W' func9 rfl (by kernel_rfl) (by kernel_rfl) (by simp [ntmps9]) ?_
  intro H
  have oc := A.one
  have N1 := Keeps.new H 24 (mC g cv)
  have V1 := Var.new (e := 24) H (cs := mC g cv)
  obtain ⟨a0, a1, a2, a3, a4, _⟩ := grid_load V1
  have GL := (A.keeps N1).len
  by_cases c1 : 2 ≤ g.R
  case neg =>
    have e1 : decide (g.R < 2) = true := decide_eq_true (by omega)
    simp only [wk, wt, wl, ↓reduceIte, Nat.reduceEqDiff, Nat.reduceAdd, wz, aeff_box, boxV_mgrid oc, pt, a0, a1, a2, a3, a4, GL, e1]
    exact ⟨by rw [show wholeB g = false from by unfold wholeB; simp [c1]], N1⟩
  have e1 : decide (g.R < 2) = false := decide_eq_false (by omega)
  by_cases c2 : g.R ≤ 500
  case neg =>
    have e2 : decide (500 < g.R) = true := decide_eq_true (by omega)
    simp only [wk, wt, wl, ↓reduceIte, Nat.reduceEqDiff, Nat.reduceAdd, wz, aeff_box, boxV_mgrid oc, pt, a0, a1, a2, a3, a4, GL, e1, e2]
    exact ⟨by rw [show wholeB g = false from by unfold wholeB; simp [c2]], N1⟩
  have e2 : decide (500 < g.R) = false := decide_eq_false (by omega)
  by_cases c3 : 2 ≤ g.C
  case neg =>
    have e3 : decide (g.C < 2) = true := decide_eq_true (by omega)
    simp only [wk, wt, wl, ↓reduceIte, Nat.reduceEqDiff, Nat.reduceAdd, wz, aeff_box, boxV_mgrid oc, pt, a0, a1, a2, a3, a4, GL, e1, e2, e3]
    exact ⟨by rw [show wholeB g = false from by unfold wholeB; simp [c3]], N1⟩
  have e3 : decide (g.C < 2) = false := decide_eq_false (by omega)
  by_cases c4 : g.C ≤ 1000
  case neg =>
    have e4 : decide (1000 < g.C) = true := decide_eq_true (by omega)
    simp only [wk, wt, wl, ↓reduceIte, Nat.reduceEqDiff, Nat.reduceAdd, wz, aeff_box, boxV_mgrid oc, pt, a0, a1, a2, a3, a4, GL, e1, e2, e3, e4]
    exact ⟨by rw [show wholeB g = false from by unfold wholeB; simp [c4]], N1⟩
  have e4 : decide (1000 < g.C) = false := decide_eq_false (by omega)
  by_cases c5 : (g.l.length : Int) = g.R * g.C
  case neg =>
    have e5 : decide (¬ (g.l.length : Int) = g.R * g.C) = true := decide_eq_true (by omega)
    have wm : IntKind.i64.wrap (g.R * g.C) = g.R * g.C := IntWalk.i64_in _ (mul_bd c1 c2 c3 c4)
    simp only [wk, wt, wl, ↓reduceIte, Nat.reduceEqDiff, Nat.reduceAdd, wz, aeff_box, boxV_mgrid oc, pt, a0, a1, a2, a3, a4, GL, e1, e2, e3, e4, e5, wm]
    exact ⟨by rw [show wholeB g = false from by unfold wholeB; simp [c5]], N1⟩
  have e5 : decide (¬ (g.l.length : Int) = g.R * g.C) = false := decide_eq_false (by omega)
  by_cases c6 : 0 ≤ g.y
  case neg =>
    have e6 : decide (g.y < 0) = true := decide_eq_true (by omega)
    have wm : IntKind.i64.wrap (g.R * g.C) = g.R * g.C := IntWalk.i64_in _ (mul_bd c1 c2 c3 c4)
    simp only [wk, wt, wl, ↓reduceIte, Nat.reduceEqDiff, Nat.reduceAdd, wz, aeff_box, boxV_mgrid oc, pt, a0, a1, a2, a3, a4, GL, e1, e2, e3, e4, e5, e6, wm]
    exact ⟨by rw [show wholeB g = false from by unfold wholeB; simp [c6]], N1⟩
  have e6 : decide (g.y < 0) = false := decide_eq_false (by omega)
  by_cases c7 : g.y < g.R
  case neg =>
    have e7 : decide (g.R ≤ g.y) = true := decide_eq_true (by omega)
    have wm : IntKind.i64.wrap (g.R * g.C) = g.R * g.C := IntWalk.i64_in _ (mul_bd c1 c2 c3 c4)
    simp only [wk, wt, wl, ↓reduceIte, Nat.reduceEqDiff, Nat.reduceAdd, wz, aeff_box, boxV_mgrid oc, pt, a0, a1, a2, a3, a4, GL, e1, e2, e3, e4, e5, e6, e7, wm]
    exact ⟨by rw [show wholeB g = false from by unfold wholeB; simp [c7]], N1⟩
  have e7 : decide (g.R ≤ g.y) = false := decide_eq_false (by omega)
  by_cases c8 : 0 ≤ g.x
  case neg =>
    have e8 : decide (g.x < 0) = true := decide_eq_true (by omega)
    have wm : IntKind.i64.wrap (g.R * g.C) = g.R * g.C := IntWalk.i64_in _ (mul_bd c1 c2 c3 c4)
    simp only [wk, wt, wl, ↓reduceIte, Nat.reduceEqDiff, Nat.reduceAdd, wz, aeff_box, boxV_mgrid oc, pt, a0, a1, a2, a3, a4, GL, e1, e2, e3, e4, e5, e6, e7, e8, wm]
    exact ⟨by rw [show wholeB g = false from by unfold wholeB; simp [c8]], N1⟩
  have e8 : decide (g.x < 0) = false := decide_eq_false (by omega)
  by_cases c9 : g.x < g.C
  case neg =>
    have e9 : decide (g.C ≤ g.x) = true := decide_eq_true (by omega)
    have wm : IntKind.i64.wrap (g.R * g.C) = g.R * g.C := IntWalk.i64_in _ (mul_bd c1 c2 c3 c4)
    simp only [wk, wt, wl, ↓reduceIte, Nat.reduceEqDiff, Nat.reduceAdd, wz, aeff_box, boxV_mgrid oc, pt, a0, a1, a2, a3, a4, GL, e1, e2, e3, e4, e5, e6, e7, e8, e9, wm]
    exact ⟨by rw [show wholeB g = false from by unfold wholeB; simp [c9]], N1⟩
  have e9 : decide (g.C ≤ g.x) = false := decide_eq_false (by omega)
  have wm : IntKind.i64.wrap (g.R * g.C) = g.R * g.C := IntWalk.i64_in _ (mul_bd c1 c2 c3 c4)
  simp only [wk, wt, wl, ↓reduceIte, Nat.reduceEqDiff, Nat.reduceAdd, wz, aeff_box, boxV_mgrid oc, pt, a0, a1, a2, a3, a4, GL, e1, e2, e3, e4, e5, e6, e7, e8, e9, wm]
  have hq : wholeB g = (List.range g.l.length).all fun i => cellQ g.C g.l i := by
    unfold wholeB
    simp only [decide_eq_true c1, decide_eq_true c2, decide_eq_true c3, decide_eq_true c4, decide_eq_true c5, decide_eq_true c6, decide_eq_true c7, decide_eq_true c8, decide_eq_true c9, Bool.true_and]
  rw [hq]
  clear hq
  refine W_loop (fun tm hh => Keeps h hh ∧ tm 1 = pt h.size ∧ Var hh h.size (mC g cv) ∧ ∃ i : Nat, tm 3 = .int .i64 (i : Int) ∧ i ≤ g.l.length ∧ ∀ j, j < i → cellQ g.C g.l j = true) (fun tm _ => (g.l.length - intOf (tm 3)).toNat) ⟨N1, (by first | rfl | (simp only [wk, wt, wl, ↓reduceIte, Nat.reduceEqDiff, Nat.reduceAdd, wz]; done) | (simp only [wk, wt, wl, ↓reduceIte, Nat.reduceEqDiff, Nat.reduceAdd, wz]; rfl) | (simp only [wk, wt, wl, ↓reduceIte, Nat.reduceEqDiff, Nat.reduceAdd, wz, pt]; done) | (simp only [wk, wt, wl, ↓reduceIte, Nat.reduceEqDiff, Nat.reduceAdd, wz, pt]; rfl)), V1, 0, (by first | rfl | (simp only [wk, wt, wl, ↓reduceIte, Nat.reduceEqDiff, Nat.reduceAdd, wz]; done) | (simp only [wk, wt, wl, ↓reduceIte, Nat.reduceEqDiff, Nat.reduceAdd, wz]; rfl)), by omega, fun j hj => by omega⟩ ?_
  rintro tm hh ⟨K, t1, W1, i, t3, hi, hz⟩
  obtain ⟨_, b1, b2, _, _, r5⟩ := grid_load W1
  simp only [wk, wt, wl, ↓reduceIte, Nat.reduceEqDiff, Nat.reduceAdd, wz, t1, t3, pt, b2, (A.keeps K).len]
  refine condK_dec (fun hd => ?_) (fun hd => ?_)
  · have hi1 : i < g.l.length := by omega
    obtain ⟨c, hc0⟩ : ∃ c, g.l[i]? = some c := ⟨_, List.getElem?_eq_getElem hi1⟩
    obtain ⟨hcR, hcl⟩ := hT c (List.mem_of_getElem? hc0)
    have wi : IntKind.i64.wrap ((i : Int) + 1) = ((i + 1 : Nat) : Int) := by rw [IntWalk.i64_in _ (by omega)]; omega
    obtain ⟨ta, RA, la, IA, _⟩ := (A.keeps K).at hc0
    have oa : one ta = true := Rd.one RA
    obtain ⟨h3, s3, V3, KC, z3⟩ := cell_var (Ch.wf K) (c := c) oa
    have K3 := K.trans KC
    have KK3 := KC
    obtain ⟨p0, p1, p2, p3⟩ := cell_load V3
    obtain ⟨_, g1, g2, _⟩ := grid_load (Keeps.var (Ch.wf K) KC W1)
    have LT := (RA.keeps KC).len underlying43
    have hX0 : g.C ≠ 0 := by omega
    have RM := abin_rem (P := prog) (t := 3) (k := .i64) (x := (i : Int)) (y := g.C) hX0
    rw [tmod_mod] at RM
    have hmod := Int.emod_nonneg (i : Int) hX0
    have hmod2 := Int.emod_lt_of_pos (i : Int) (show 0 < g.C by omega)
    have wr : IntKind.i64.wrap ((i : Int) % g.C) = (i : Int) % g.C := IntWalk.i64_in _ (by omega)
    have wc : IntKind.i64.wrap (g.C - 1) = g.C - 1 := IntWalk.i64_in _ (by omega)
    have hq : cellQ g.C g.l i = (decide (c.ar = 0 ∨ c.ar = 1) && (if c.tx = [] then !c.wd && (decide ((i : Int) % g.C ≠ 0) && (g.l[i - 1]?.any fun d => d.wd && decide (d.ar = c.ar)))
      else letQ c && (!c.wd || (decide ((i : Int) % g.C < g.C - 1) && g.l[i + 1]?.any fun d => decide (d.tx = []))))) := by unfold cellQ; rw [hc0]
    by_cases ca : c.ar = 0 ∨ c.ar = 1
    case neg =>
      have d1 : decide (¬ c.ar = 0) = true := decide_eq_true fun e => ca (.inl e)
      have d1' : decide (¬ c.ar = 1) = true := decide_eq_true fun e => ca (.inr e)
      have hcq : cellQ g.C g.l i = false := by rw [hq, decide_eq_false ca]; rfl
      simp only [wk, wt, wl, ↓reduceIte, Nat.reduceEqDiff, Nat.reduceAdd, wz, t1, t3, pt, b2, IA, la, s3, p1, d1, d1']
      first
        | exact ⟨by rw [range_not hi1 hcq], K3⟩
        | exact ⟨Reads.refl _, by rw [range_not hi1 hcq], K3⟩
    rw [decide_eq_true ca, Bool.true_and] at hq
    have da : (decide (¬ c.ar = 0) = false) ∨ (decide (¬ c.ar = 0) = true ∧ decide (¬ c.ar = 1) = false) := by
      rcases ca with e | e <;> rw [e] <;> decide
    rcases da with d1 | ⟨d1, d1'⟩
    ·
      by_cases ct : c.tx = []
      · rw [if_pos ct] at hq
        have d2 : decide ((c.tx.length : Int) = 0) = true := decide_eq_true (by rw [ct]; rfl)
        simp only [wk, wt, wl, ↓reduceIte, Nat.reduceEqDiff, Nat.reduceAdd, wz, t1, t3, pt, b2, IA, la, s3, p1, d1, p0, LT, d2]
        refine adraw_order [(0, false), (1, false), (2, false), (3, false), (4, false), (5, false), (6, false), (7, false), (8, false), (9, false), (10, false), (11, false), (12, false), (13, false), (14, false), (15, false), (16, false), (17, false), (18, false), (19, false), (20, false), (21, false), (22, false), (23, false), (24, false), (25, false), (26, false), (27, false), (28, false), (29, false), (30, false)] mixed (by kernel_rfl) (by kernel_rfl) (by kernel_rfl) (by with_reducible repeat (first | exact PF_retK | refine PF_thenK ?_ | refine PF_blockK ?_)) ?_
        cases hw : c.wd with
        | true =>
          rw [hw] at p2
          have hcq : cellQ g.C g.l i = false := by rw [hq]; simp [hw]
          simp only [wk, wt, wl, ↓reduceIte, Nat.reduceEqDiff, Nat.reduceAdd, wz, dK_t, t1, t3, pt, p2]
          first
            | exact ⟨by rw [range_not hi1 hcq], K3⟩
            | exact ⟨Reads.refl _, by rw [range_not hi1 hcq], K3⟩
        | false =>
          rw [hw] at p2
          by_cases cm : (i : Int) % g.C = 0
          · have d3 : decide ((i : Int) % g.C = 0) = true := decide_eq_true cm
            have hcq : cellQ g.C g.l i = false := by rw [hq]; simp [cm]
            simp only [wk, wt, wl, ↓reduceIte, Nat.reduceEqDiff, Nat.reduceAdd, wz, dK_t, t1, t3, pt, p2, g1, RM, wr, d3]
            first
              | exact ⟨by rw [range_not hi1 hcq], K3⟩
              | exact ⟨Reads.refl _, by rw [range_not hi1 hcq], K3⟩
          · have d3 : decide ((i : Int) % g.C = 0) = false := decide_eq_false cm
            have hi0 : 1 ≤ i := by
              rcases Nat.eq_zero_or_pos i with e | e
              · subst e; exact absurd (Int.zero_emod g.C) cm
              · exact e
            obtain ⟨d, hd0⟩ : ∃ d, g.l[i - 1]? = some d := ⟨_, List.getElem?_eq_getElem (by omega)⟩
            obtain ⟨td, RD, LD, ID, _, dar, dwd⟩ := (A.keeps K3).at hd0
            have wj : IntKind.i64.wrap ((i : Int) - 1) = ((i - 1 : Nat) : Int) := by rw [IntWalk.i64_in _ (by omega)]; omega
            cases hdw : d.wd with
            | false =>
              rw [hdw] at dwd
              have hcq : cellQ g.C g.l i = false := by rw [hq]; simp [hd0, hdw]
              simp only [wk, wt, wl, ↓reduceIte, Nat.reduceEqDiff, Nat.reduceAdd, wz, dK_t, t1, t3, pt, p2, g1, RM, wr, d3, g2, wj, ID, dwd, Bool.not_false]
              first
                | exact ⟨by rw [range_not hi1 hcq], K3⟩
                | exact ⟨Reads.refl _, by rw [range_not hi1 hcq], K3⟩
            | true =>
              rw [hdw] at dwd
              by_cases ce : d.ar = c.ar
              · have d4 : decide (¬ d.ar = c.ar) = false := decide_eq_false fun e => e ce
                simp only [wk, wt, wl, ↓reduceIte, Nat.reduceEqDiff, Nat.reduceAdd, wz, dK_t, t1, t3, pt, p2, g1, RM, wr, d3, g2, wj, ID, dwd, dar, p1, d4, Bool.not_true, wi, intOf_int]
                have hcq : cellQ g.C g.l i = true := (by rw [hq, hw, hd0]; simp [cm, hdw, ce])
                exact ⟨⟨K3, Keeps.var (Ch.wf K) (KK3) W1, i + 1, rfl, by omega, fun j hj => by
                  by_cases ej : j = i
                  · subst ej; exact hcq
                  · exact hz j (by omega)⟩, by omega⟩
              · have d4 : decide (¬ d.ar = c.ar) = true := decide_eq_true ce
                have hcq : cellQ g.C g.l i = false := by rw [hq]; simp [hd0, hdw, ce]
                simp only [wk, wt, wl, ↓reduceIte, Nat.reduceEqDiff, Nat.reduceAdd, wz, dK_t, t1, t3, pt, p2, g1, RM, wr, d3, g2, wj, ID, dwd, dar, p1, d4, Bool.not_true]
                first
                  | exact ⟨by rw [range_not hi1 hcq], K3⟩
                  | exact ⟨Reads.refl _, by rw [range_not hi1 hcq], K3⟩
      · rw [if_neg ct] at hq
        have d2 : decide ((c.tx.length : Int) = 0) = false := decide_eq_false fun e => ct (List.eq_nil_of_length_eq_zero (by omega))
        have LOK := lettersQ_ok (c := c) (RA.keeps KC) ct hcR hcl
        simp only [wk, wt, wl, ↓reduceIte, Nat.reduceEqDiff, Nat.reduceAdd, wz, t1, t3, pt, b2, IA, la, s3, p1, d1, p0, LT, d2]
        refine adraw_order [(0, false), (1, false), (2, false), (3, false), (4, false), (5, false), (6, false), (7, false), (8, false), (9, false), (10, false), (11, false), (12, false), (13, false), (14, false), (15, false), (16, false), (17, false), (18, false), (19, false), (20, false), (21, false), (22, false), (23, false), (24, false), (25, true), (26, false), (27, false)] mixed (by kernel_rfl) (by kernel_rfl) (by kernel_rfl) (by with_reducible repeat (first | exact PF_retK | refine PF_thenK ?_ | refine PF_blockK ?_)) ?_
        cases hw : c.wd with
        | false =>
          rw [hw] at LOK p2
          simp only [wk, wt, wl, ↓reduceIte, Nat.reduceEqDiff, Nat.reduceAdd, wz, dK_t, t1, t3, pt, p2, hw, p3]
          refine LOK.use ?_
          rintro _ h4 ⟨rfl, K4⟩
          try refine ⟨fun _ => K4.reads (Ch.wf K3), ?_⟩
          cases hlq : letQ c with
          | true =>
            simp only [wk, wt, wl, ↓reduceIte, Nat.reduceEqDiff, Nat.reduceAdd, wz, dK_t, t1, t3, pt, Bool.not_true, wi, intOf_int]
            have hcq : cellQ g.C g.l i = true := (by rw [hq, hw, hlq]; rfl)
            exact ⟨⟨K3.trans K4, Keeps.var (Ch.wf K) (KK3.trans K4) W1, i + 1, rfl, by omega, fun j hj => by
              by_cases ej : j = i
              · subst ej; exact hcq
              · exact hz j (by omega)⟩, by omega⟩
          | false =>
            have hcq : cellQ g.C g.l i = false := by rw [hq, hlq]; rfl
            simp only [wk, wt, wl, ↓reduceIte, Nat.reduceEqDiff, Nat.reduceAdd, wz, dK_t, t1, t3, pt, Bool.not_false]
            first
              | exact ⟨by rw [range_not hi1 hcq], K3.trans K4⟩
              | exact ⟨Reads.refl _, by rw [range_not hi1 hcq], K3.trans K4⟩
        | true =>
          rw [hw] at LOK p2
          by_cases cm : (i : Int) % g.C = g.C - 1
          · have d3 : decide ((i : Int) % g.C = g.C - 1) = true := decide_eq_true cm
            have hcq : cellQ g.C g.l i = false := by rw [hq]; simp [hw, cm]
            simp only [wk, wt, wl, ↓reduceIte, Nat.reduceEqDiff, Nat.reduceAdd, wz, dK_t, t1, t3, pt, p2, g1, RM, wr, wc, d3]
            first
              | exact ⟨by rw [range_not hi1 hcq], K3⟩
              | exact ⟨Reads.refl _, by rw [range_not hi1 hcq], K3⟩
          · have d3 : decide ((i : Int) % g.C = g.C - 1) = false := decide_eq_false cm
            have hnx := next_lt c3 c5 (by omega : (i : Int) < _) (by omega)
            obtain ⟨d, hd0⟩ : ∃ d, g.l[i + 1]? = some d := ⟨_, List.getElem?_eq_getElem (by omega)⟩
            obtain ⟨td, RD, LD, ID, dtx, _⟩ := (A.keeps K3).at hd0
            have LDn := RD.len underlying43
            have dtx0 : aload prog h3 43 ⟨(eltA cv 3 (i + 1)).block, (eltA cv 3 (i + 1)).off + 0, none⟩ = some td := by rw [eltA_eta]; exact dtx
            by_cases q8 : d.tx = []
            · have d4 : decide ((0 : Int) < (d.tx.length : Int)) = false := decide_eq_false (by rw [q8]; decide)
              simp only [wk, wt, wl, ↓reduceIte, Nat.reduceEqDiff, Nat.reduceAdd, wz, dK_t, t1, t3, pt, p2, hw, g1, RM, wr, wc, d3, g2, wi, ID, dtx0, LDn, d4, p3]
              refine LOK.use ?_
              rintro _ h4 ⟨rfl, K4⟩
              try refine ⟨fun _ => K4.reads (Ch.wf K3), ?_⟩
              cases hlq : letQ c with
              | true =>
                simp only [wk, wt, wl, ↓reduceIte, Nat.reduceEqDiff, Nat.reduceAdd, wz, dK_t, t1, t3, pt, Bool.not_true, wi, intOf_int]
                have hcq : cellQ g.C g.l i = true := (by rw [hq, hw, hlq, hd0]; simp [q8]; omega)
                exact ⟨⟨K3.trans K4, Keeps.var (Ch.wf K) (KK3.trans K4) W1, i + 1, rfl, by omega, fun j hj => by
                  by_cases ej : j = i
                  · subst ej; exact hcq
                  · exact hz j (by omega)⟩, by omega⟩
              | false =>
                have hcq : cellQ g.C g.l i = false := by rw [hq, hlq]; rfl
                simp only [wk, wt, wl, ↓reduceIte, Nat.reduceEqDiff, Nat.reduceAdd, wz, dK_t, t1, t3, pt, Bool.not_false]
                first
                  | exact ⟨by rw [range_not hi1 hcq], K3.trans K4⟩
                  | exact ⟨Reads.refl _, by rw [range_not hi1 hcq], K3.trans K4⟩
            · have d4 : decide ((0 : Int) < (d.tx.length : Int)) = true := decide_eq_true (by have := List.length_pos_iff.2 q8; omega)
              have hcq : cellQ g.C g.l i = false := by rw [hq]; simp [hw, hd0, q8]
              simp only [wk, wt, wl, ↓reduceIte, Nat.reduceEqDiff, Nat.reduceAdd, wz, dK_t, t1, t3, pt, p2, hw, g1, RM, wr, wc, d3, g2, wi, ID, dtx0, LDn, d4, p3]
              first
                | exact ⟨by rw [range_not hi1 hcq], K3⟩
                | exact ⟨Reads.refl _, by rw [range_not hi1 hcq], K3⟩
    ·
      by_cases ct : c.tx = []
      · rw [if_pos ct] at hq
        have d2 : decide ((c.tx.length : Int) = 0) = true := decide_eq_true (by rw [ct]; rfl)
        simp only [wk, wt, wl, ↓reduceIte, Nat.reduceEqDiff, Nat.reduceAdd, wz, t1, t3, pt, b2, IA, la, s3, p1, d1, d1', p0, LT, d2]
        refine adraw_order [(0, false), (1, false), (2, false), (3, false), (4, false), (5, false), (6, false), (7, false), (8, false), (9, false), (10, false), (11, false), (12, false), (13, false), (14, false), (15, false), (16, false), (17, false), (18, false), (19, false), (20, false), (21, false), (22, false), (23, false), (24, false), (25, false), (26, false), (27, false), (28, false), (29, false), (30, false)] mixed (by kernel_rfl) (by kernel_rfl) (by kernel_rfl) (by with_reducible repeat (first | exact PF_retK | refine PF_thenK ?_ | refine PF_blockK ?_)) ?_
        cases hw : c.wd with
        | true =>
          rw [hw] at p2
          have hcq : cellQ g.C g.l i = false := by rw [hq]; simp [hw]
          simp only [wk, wt, wl, ↓reduceIte, Nat.reduceEqDiff, Nat.reduceAdd, wz, dK_t, t1, t3, pt, p2]
          first
            | exact ⟨by rw [range_not hi1 hcq], K3⟩
            | exact ⟨Reads.refl _, by rw [range_not hi1 hcq], K3⟩
        | false =>
          rw [hw] at p2
          by_cases cm : (i : Int) % g.C = 0
          · have d3 : decide ((i : Int) % g.C = 0) = true := decide_eq_true cm
            have hcq : cellQ g.C g.l i = false := by rw [hq]; simp [cm]
            simp only [wk, wt, wl, ↓reduceIte, Nat.reduceEqDiff, Nat.reduceAdd, wz, dK_t, t1, t3, pt, p2, g1, RM, wr, d3]
            first
              | exact ⟨by rw [range_not hi1 hcq], K3⟩
              | exact ⟨Reads.refl _, by rw [range_not hi1 hcq], K3⟩
          · have d3 : decide ((i : Int) % g.C = 0) = false := decide_eq_false cm
            have hi0 : 1 ≤ i := by
              rcases Nat.eq_zero_or_pos i with e | e
              · subst e; exact absurd (Int.zero_emod g.C) cm
              · exact e
            obtain ⟨d, hd0⟩ : ∃ d, g.l[i - 1]? = some d := ⟨_, List.getElem?_eq_getElem (by omega)⟩
            obtain ⟨td, RD, LD, ID, _, dar, dwd⟩ := (A.keeps K3).at hd0
            have wj : IntKind.i64.wrap ((i : Int) - 1) = ((i - 1 : Nat) : Int) := by rw [IntWalk.i64_in _ (by omega)]; omega
            cases hdw : d.wd with
            | false =>
              rw [hdw] at dwd
              have hcq : cellQ g.C g.l i = false := by rw [hq]; simp [hd0, hdw]
              simp only [wk, wt, wl, ↓reduceIte, Nat.reduceEqDiff, Nat.reduceAdd, wz, dK_t, t1, t3, pt, p2, g1, RM, wr, d3, g2, wj, ID, dwd, Bool.not_false]
              first
                | exact ⟨by rw [range_not hi1 hcq], K3⟩
                | exact ⟨Reads.refl _, by rw [range_not hi1 hcq], K3⟩
            | true =>
              rw [hdw] at dwd
              by_cases ce : d.ar = c.ar
              · have d4 : decide (¬ d.ar = c.ar) = false := decide_eq_false fun e => e ce
                simp only [wk, wt, wl, ↓reduceIte, Nat.reduceEqDiff, Nat.reduceAdd, wz, dK_t, t1, t3, pt, p2, g1, RM, wr, d3, g2, wj, ID, dwd, dar, p1, d4, Bool.not_true, wi, intOf_int]
                have hcq : cellQ g.C g.l i = true := (by rw [hq, hw, hd0]; simp [cm, hdw, ce])
                exact ⟨⟨K3, Keeps.var (Ch.wf K) (KK3) W1, i + 1, rfl, by omega, fun j hj => by
                  by_cases ej : j = i
                  · subst ej; exact hcq
                  · exact hz j (by omega)⟩, by omega⟩
              · have d4 : decide (¬ d.ar = c.ar) = true := decide_eq_true ce
                have hcq : cellQ g.C g.l i = false := by rw [hq]; simp [hd0, hdw, ce]
                simp only [wk, wt, wl, ↓reduceIte, Nat.reduceEqDiff, Nat.reduceAdd, wz, dK_t, t1, t3, pt, p2, g1, RM, wr, d3, g2, wj, ID, dwd, dar, p1, d4, Bool.not_true]
                first
                  | exact ⟨by rw [range_not hi1 hcq], K3⟩
                  | exact ⟨Reads.refl _, by rw [range_not hi1 hcq], K3⟩
      · rw [if_neg ct] at hq
        have d2 : decide ((c.tx.length : Int) = 0) = false := decide_eq_false fun e => ct (List.eq_nil_of_length_eq_zero (by omega))
        have LOK := lettersQ_ok (c := c) (RA.keeps KC) ct hcR hcl
        simp only [wk, wt, wl, ↓reduceIte, Nat.reduceEqDiff, Nat.reduceAdd, wz, t1, t3, pt, b2, IA, la, s3, p1, d1, d1', p0, LT, d2]
        refine adraw_order [(0, false), (1, false), (2, false), (3, false), (4, false), (5, false), (6, false), (7, false), (8, false), (9, false), (10, false), (11, false), (12, false), (13, false), (14, false), (15, false), (16, false), (17, false), (18, false), (19, false), (20, false), (21, false), (22, false), (23, false), (24, false), (25, true), (26, false), (27, false)] mixed (by kernel_rfl) (by kernel_rfl) (by kernel_rfl) (by with_reducible repeat (first | exact PF_retK | refine PF_thenK ?_ | refine PF_blockK ?_)) ?_
        cases hw : c.wd with
        | false =>
          rw [hw] at LOK p2
          simp only [wk, wt, wl, ↓reduceIte, Nat.reduceEqDiff, Nat.reduceAdd, wz, dK_t, t1, t3, pt, p2, hw, p3]
          refine LOK.use ?_
          rintro _ h4 ⟨rfl, K4⟩
          try refine ⟨fun _ => K4.reads (Ch.wf K3), ?_⟩
          cases hlq : letQ c with
          | true =>
            simp only [wk, wt, wl, ↓reduceIte, Nat.reduceEqDiff, Nat.reduceAdd, wz, dK_t, t1, t3, pt, Bool.not_true, wi, intOf_int]
            have hcq : cellQ g.C g.l i = true := (by rw [hq, hw, hlq]; rfl)
            exact ⟨⟨K3.trans K4, Keeps.var (Ch.wf K) (KK3.trans K4) W1, i + 1, rfl, by omega, fun j hj => by
              by_cases ej : j = i
              · subst ej; exact hcq
              · exact hz j (by omega)⟩, by omega⟩
          | false =>
            have hcq : cellQ g.C g.l i = false := by rw [hq, hlq]; rfl
            simp only [wk, wt, wl, ↓reduceIte, Nat.reduceEqDiff, Nat.reduceAdd, wz, dK_t, t1, t3, pt, Bool.not_false]
            first
              | exact ⟨by rw [range_not hi1 hcq], K3.trans K4⟩
              | exact ⟨Reads.refl _, by rw [range_not hi1 hcq], K3.trans K4⟩
        | true =>
          rw [hw] at LOK p2
          by_cases cm : (i : Int) % g.C = g.C - 1
          · have d3 : decide ((i : Int) % g.C = g.C - 1) = true := decide_eq_true cm
            have hcq : cellQ g.C g.l i = false := by rw [hq]; simp [hw, cm]
            simp only [wk, wt, wl, ↓reduceIte, Nat.reduceEqDiff, Nat.reduceAdd, wz, dK_t, t1, t3, pt, p2, g1, RM, wr, wc, d3]
            first
              | exact ⟨by rw [range_not hi1 hcq], K3⟩
              | exact ⟨Reads.refl _, by rw [range_not hi1 hcq], K3⟩
          · have d3 : decide ((i : Int) % g.C = g.C - 1) = false := decide_eq_false cm
            have hnx := next_lt c3 c5 (by omega : (i : Int) < _) (by omega)
            obtain ⟨d, hd0⟩ : ∃ d, g.l[i + 1]? = some d := ⟨_, List.getElem?_eq_getElem (by omega)⟩
            obtain ⟨td, RD, LD, ID, dtx, _⟩ := (A.keeps K3).at hd0
            have LDn := RD.len underlying43
            have dtx0 : aload prog h3 43 ⟨(eltA cv 3 (i + 1)).block, (eltA cv 3 (i + 1)).off + 0, none⟩ = some td := by rw [eltA_eta]; exact dtx
            by_cases q8 : d.tx = []
            · have d4 : decide ((0 : Int) < (d.tx.length : Int)) = false := decide_eq_false (by rw [q8]; decide)
              simp only [wk, wt, wl, ↓reduceIte, Nat.reduceEqDiff, Nat.reduceAdd, wz, dK_t, t1, t3, pt, p2, hw, g1, RM, wr, wc, d3, g2, wi, ID, dtx0, LDn, d4, p3]
              refine LOK.use ?_
              rintro _ h4 ⟨rfl, K4⟩
              try refine ⟨fun _ => K4.reads (Ch.wf K3), ?_⟩
              cases hlq : letQ c with
              | true =>
                simp only [wk, wt, wl, ↓reduceIte, Nat.reduceEqDiff, Nat.reduceAdd, wz, dK_t, t1, t3, pt, Bool.not_true, wi, intOf_int]
                have hcq : cellQ g.C g.l i = true := (by rw [hq, hw, hlq, hd0]; simp [q8]; omega)
                exact ⟨⟨K3.trans K4, Keeps.var (Ch.wf K) (KK3.trans K4) W1, i + 1, rfl, by omega, fun j hj => by
                  by_cases ej : j = i
                  · subst ej; exact hcq
                  · exact hz j (by omega)⟩, by omega⟩
              | false =>
                have hcq : cellQ g.C g.l i = false := by rw [hq, hlq]; rfl
                simp only [wk, wt, wl, ↓reduceIte, Nat.reduceEqDiff, Nat.reduceAdd, wz, dK_t, t1, t3, pt, Bool.not_false]
                first
                  | exact ⟨by rw [range_not hi1 hcq], K3.trans K4⟩
                  | exact ⟨Reads.refl _, by rw [range_not hi1 hcq], K3.trans K4⟩
            · have d4 : decide ((0 : Int) < (d.tx.length : Int)) = true := decide_eq_true (by have := List.length_pos_iff.2 q8; omega)
              have hcq : cellQ g.C g.l i = false := by rw [hq]; simp [hw, hd0, q8]
              simp only [wk, wt, wl, ↓reduceIte, Nat.reduceEqDiff, Nat.reduceAdd, wz, dK_t, t1, t3, pt, p2, hw, g1, RM, wr, wc, d3, g2, wi, ID, dtx0, LDn, d4, p3]
              first
                | exact ⟨by rw [range_not hi1 hcq], K3⟩
                | exact ⟨Reads.refl _, by rw [range_not hi1 hcq], K3⟩
  · obtain rfl : i = g.l.length := by omega
    simp only [wk, wt, wl, ↓reduceIte, Nat.reduceEqDiff, Nat.reduceAdd, wz]
    exact ⟨by rw [range_all hz], K⟩
end Go.Proofs.YthmpaddhmgnkbaaDoor.Am
end
section
/- What changed, part one: contracts of emit.same, moved, by walks; stretches of cells in memory; the contract of slices.Reverse over them. -/
set_option linter.unusedSimpArgs false
set_option linter.unusedVariables false
set_option maxHeartbeats 8000000
set_option maxRecDepth 20000
namespace Go.Proofs.YthmpaddhmgnkbaaDoor.Am
open Go Go.RowKit Go.Proofs.Tryd
theorem sameC_ok {h : Heap} {a b : Value} {c d : Cel} (X : RdI prog h .i32 a c.tx) (Y : RdI prog h .i32 b d.tx) (hx : c.tx.length ≤ 1000000000000000) : ACalls prog 54 #[.agg #[a, .int .i64 c.ar, .bool c.wd], .agg #[b, .int .i64 d.ar, .bool d.wd]] h (fun v h' => v = .bool (decide (c = d)) ∧ Keeps h h') := by
  refine acalls_of_W' func54 rfl (by kernel_rfl) (by kernel_rfl) (by simp [ntmps54]) ?_
  intro H
  have o1 := Rd.one X
  have o2 := Rd.one Y
  have N1 := Keeps.new H 45 [a, .int .i64 c.ar, .bool c.wd]
  have V1 := Var.new (e := 45) H (cs := [a, .int .i64 c.ar, .bool c.wd])
  have hz1 : (h.new 45 [a, .int .i64 c.ar, .bool c.wd]).size = h.size + 1 := rfl
  have N2 := Keeps.new (Ch.wf N1) 45 [b, .int .i64 d.ar, .bool d.wd]
  have V2 := Var.new (e := 45) (Ch.wf N1) (cs := [b, .int .i64 d.ar, .bool d.wd])
  rw [hz1] at V2
  have V12 := Keeps.var (Ch.wf N1) N2 V1
  have K2 := N1.trans N2
  obtain ⟨p0, p1, p2, _⟩ := cell_load V12
  obtain ⟨q0, q1, q2, _⟩ := cell_load V2
  rw [cel_dec]
  by_cases c1 : c.ar = d.ar
  case neg =>
    have e1 := decide_eq_false c1
    rw [e1]
    simp only [wk, wt, wl, ↓reduceIte, Nat.reduceEqDiff, Nat.reduceAdd, wz, pt, aeff_box, boxV_cell o1, boxV_cell o2, hz1, newSz, p1, q1, e1]
    exact ⟨rfl, K2⟩
  have e1 := decide_eq_true c1
  by_cases c2 : c.wd = d.wd
  case neg =>
    have e2 := decide_eq_false c2
    rw [e1, e2]
    simp only [wk, wt, wl, ↓reduceIte, Nat.reduceEqDiff, Nat.reduceAdd, wz, pt, aeff_box, boxV_cell o1, boxV_cell o2, hz1, newSz, p1, q1, e1, p2, q2, eqB, e2]
    exact ⟨rfl, K2⟩
  have e2 := decide_eq_true c2
  rw [e1, e2]
  simp only [wk, wt, wl, ↓reduceIte, Nat.reduceEqDiff, Nat.reduceAdd, wz, pt, aeff_box, boxV_cell o1, boxV_cell o2, hz1, newSz, p1, q1, e1, p2, q2, eqB, e2, p0, q0]
  refine (equalR_ok (X.keeps K2) (Y.keeps K2) hx).use ?_
  rintro _ _ ⟨rfl, hh⟩
  obtain rfl := hh.symm
  simp only [wk, wt, wl, ↓reduceIte, Nat.reduceEqDiff, Nat.reduceAdd, wz]
  exact ⟨rfl, K2⟩
theorem moved_ok {h : Heap} {va vb : Value} {a b : GM} (A : GR h va a.l) (B : GR h vb b.l) (hl : a.l.length ≤ 1000000000) (hT : TxB a.l) :
    ACalls prog 28 #[mV a va, mV b vb] h (fun v h' => v = .bool (decide (({ a with y := b.y, x := b.x } : GM) = b)) ∧ Keeps h h') := by
  refine acalls_of_W' func28 rfl (by kernel_rfl) (by kernel_rfl) (by simp [ntmps28]) ?_
  intro H
  have o1 := A.one
  have o2 := B.one
  have N1 := Keeps.new H 24 (mC a va)
  have V1 := Var.new (e := 24) H (cs := mC a va)
  have hz1 : (h.new 24 (mC a va)).size = h.size + 1 := rfl
  have N2 := Keeps.new (Ch.wf N1) 24 (mC b vb)
  have V2 := Var.new (e := 24) (Ch.wf N1) (cs := mC b vb)
  rw [hz1] at V2
  have V12 := Keeps.var (Ch.wf N1) N2 V1
  have K2 := N1.trans N2
  obtain ⟨q0, q1, q2, q3, q4, q5⟩ := grid_load V2
  obtain ⟨h3, s3, V3, C3, z3⟩ := V12.store1 (P := prog) (t := 3) (v := .int .i64 b.y) (i := 3) (Ch.wf K2) asz3 (by simp [mC]) rfl
  obtain ⟨h4, s4, V4, C4, z4⟩ := V3.store1 (P := prog) (t := 3) (v := .int .i64 b.x) (i := 4) (Ch.wf C3) asz3 (by simp [mC]) rfl
  have K3 := K2.step C3 fun x e => by omega
  have K4 := K3.step C4 fun x e => by omega
  have W4 : Var h4 h.size (mC { a with y := b.y, x := b.x } va) := V4
  have X3 := Ch.var (Ch.wf K2) C3 V2 (by omega)
  have X4 := Ch.var (Ch.wf C3) C4 X3 (by omega)
  obtain ⟨_, _, _, _, _, r5⟩ := grid_load W4
  obtain ⟨_, _, _, _, _, t5⟩ := grid_load X4
  obtain ⟨p0, p1, p2, p3, p4, p5⟩ := grid_load V12
  have A4 := A.keeps K4
  have B4 := B.keeps K4
  simp only [wk, wt, wl, ↓reduceIte, Nat.reduceEqDiff, Nat.reduceAdd, wz, pt, aeff_box, boxV_mgrid o1, boxV_mgrid o2, hz1, newSz]
  obtain ⟨x0, x1, x2, x3, x4, x5⟩ := grid_load X3
  refine adraw_mid (fun tm hh => h4 = hh ∧ tm 2 = pt h.size ∧ tm 3 = pt (h.size + 1)) (.two 0 2 (.two 1 2 (.two 2 4 (.two 3 4 (.one 4 (.one 5 (.one 6 (.one 7 .nil)))) (.two 3 5 (.one 5 (.one 6 (.one 7 .nil))) (.one 3 (.one 6 (.one 7 .nil))))) (.two 2 5 (.two 3 5 (.one 5 (.one 6 (.one 7 .nil))) (.one 3 (.one 6 (.one 7 .nil)))) (.one 2 (.one 3 (.one 6 (.one 7 .nil)))))) (.two 1 3 (.two 3 4 (.one 4 (.one 5 (.one 6 (.one 7 .nil)))) (.two 3 5 (.one 5 (.one 6 (.one 7 .nil))) (.one 3 (.one 6 (.one 7 .nil))))) (.one 1 (.one 4 (.one 5 (.one 6 (.one 7 .nil))))))) (.two 0 3 (.two 1 3 (.two 3 4 (.one 4 (.one 5 (.one 6 (.one 7 .nil)))) (.two 3 5 (.one 5 (.one 6 (.one 7 .nil))) (.one 3 (.one 6 (.one 7 .nil))))) (.one 1 (.one 4 (.one 5 (.one 6 (.one 7 .nil)))))) (.one 0 (.one 1 (.one 4 (.one 5 (.one 6 (.one 7 .nil)))))))) mixed (by kernel_rfl) (by kernel_rfl) (by kernel_rfl) ?_ ?_
  · simp only [wk, wt, wl, ↓reduceIte, Nat.reduceEqDiff, Nat.reduceAdd, wz, we, q3, q4, x3, x4, s3, s4, pt, and_self]
  rintro tm _ ⟨rfl, t2, t3⟩
  simp only [wk, wt, wl, ↓reduceIte, Nat.reduceEqDiff, Nat.reduceAdd, wz, t2, t3, pt, r5, t5]
  refine (sameG_ok (a := { a with y := b.y, x := b.x }) A4 B4 hl hT).use ?_
  rintro _ h5 ⟨rfl, K5⟩
  simp only [wk, wt, wl, ↓reduceIte, Nat.reduceEqDiff, Nat.reduceAdd, wz]
  exact K4.trans K5
/-- Stretches of cells. -/
def cP (p : Int × Int) : List Value := [.int .i64 p.1, .int .i64 p.2]
theorem cP_len : ∀ p, (cP p).length = 2 := fun _ => rfl
theorem cells_two {a b : Int} : (Value.agg #[.int .i64 a, .int .i64 b]).cells.toList = [.int .i64 a, .int .i64 b] := by simp [Value.cells]
/-- A row of stretches that is one's own. -/
def OP (h : Heap) (v : Value) (l : List (Int × Int)) : Prop := OwnR prog h 2 v l.length (l.flatMap cP)
theorem OP.rs {h : Heap} {v : Value} {l : List (Int × Int)} (O : OP h v l) : RS prog h 2 cP v l := O.1
theorem OP.at {h : Heap} {v : Value} {l : List (Int × Int)} (O : OP h v l) {i : Nat} {x : Int × Int} (hx : l[i]? = some x) : aindexAddr prog 76 v (.int .i64 (i : Int)) = some (.pointer (some (eltA v 2 i))) ∧ aload prog h 57 (eltA v 2 i) = some (.agg #[.int .i64 x.1, .int .i64 x.2]) ∧
    aload prog h 3 (eltA v 2 i) = some (.int .i64 x.1) ∧ aload prog h 3 ⟨(eltA v 2 i).block, (eltA v 2 i).off + 1, none⟩ = some (.int .i64 x.2) := by
  have hi := (List.getElem?_eq_some_iff.1 hx).1
  have I := Rd.index O.rs underlying76 asz57 (q := .i64) (i := (i : Int)) (by omega) (by omega)
  rw [Int.toNat_natCast] at I
  have h0 := O.rs.fld cP_len (t := 3) underlying3 rfl hx (j := 0) (by decide)
  have h1 := O.rs.fld cP_len (t := 3) underlying3 rfl hx (j := 1) (by decide)
  exact ⟨I, O.rs.agg cP_len underlying57 rfl asz57 hx, h0, h1⟩
theorem OP.set {h : Heap} (H : Wf h) {v : Value} {l : List (Int × Int)} (O : OP h v l) {i : Nat} {x : Int × Int} (hi : i < l.length) :
    ∃ h', storeV prog h 57 (.pointer (some (eltA v 2 i))) (.agg #[.int .i64 x.1, .int .i64 x.2]) = some (undef, h') ∧ OP h' v (l.set i x) ∧ Ch (FamV h v) h h' ∧ h'.size = h.size ∧ ∀ b k, h.get b = some k → ∃ k', h'.get b = some k' ∧ k'.fam = k.fam := by
  obtain ⟨h', e, O', C, z, f, _⟩ := OwnR.storeA (t := 57) (w := .agg #[.int .i64 x.1, .int .i64 x.2]) H O asz57 (by simp [Value.cells]) (by simp [Value.cells, one_int]) hi
  refine ⟨h', e, ?_, C, z, f⟩
  rw [cells_two] at O'
  have := fm_over (x := x) cP_len hi
  unfold OP
  rw [List.length_set, ← this]
  exact O'
theorem OP.len {h : Heap} {v : Value} {l : List (Int × Int)} (O : OP h v l) : abuiltin prog .len #[76] #[v] = some (.int .i64 l.length) := O.rs.len underlying76
/-- Two stretches change places. -/
def swapL (l : List (Int × Int)) (i j : Nat) : List (Int × Int) := match l[i]?, l[j]? with
  | some x, some y => (l.set i y).set j x
  | _, _ => l
theorem swapL_eq {l : List (Int × Int)} {i j : Nat} {x y : Int × Int} (hx : l[i]? = some x) (hy : l[j]? = some y) : swapL l i j = (l.set i y).set j x := by unfold swapL; rw [hx, hy]
theorem swapL_len {l : List (Int × Int)} {i j : Nat} : (swapL l i j).length = l.length := by unfold swapL; split <;> simp
/-- What two writings in one family leave as it was. -/
theorem famv_then {h h1 h2 : Heap} {v : Value} (f : ∀ b k, h.get b = some k → ∃ k', h1.get b = some k' ∧ k'.fam = k.fam) (hlt : ∀ b, blkOf v = some b → b < h.size) (C1 : Ch (FamV h v) h h1) (C2 : Ch (FamV h1 v) h1 h2) : Ch (FamV h v) h h2 :=
  C1.then C2 fun x F => FamV.back C1 hlt F
theorem swap_ok {h : Heap} {v : Value} {l : List (Int × Int)} {i j : Nat} (O : OP h v l) (hi : i < l.length) (hj : j < l.length) :
    ACalls prog 110 #[v, .int .i64 (i : Int), .int .i64 (j : Int)] h (fun y h' => OP h' v (swapL l i j) ∧ Ch (FamV h v) h h') := by
  refine acalls_of_W' func110 rfl (by kernel_rfl) (by kernel_rfl) (by simp [ntmps110]) ?_
  intro H
  obtain ⟨x, hx⟩ : ∃ x, l[i]? = some x := ⟨_, List.getElem?_eq_getElem hi⟩
  obtain ⟨y, hy⟩ : ∃ y, l[j]? = some y := ⟨_, List.getElem?_eq_getElem hj⟩
  obtain ⟨I1, L1, _⟩ := O.at hx
  obtain ⟨I2, L2, _⟩ := O.at hy
  obtain ⟨h3, s3, O3, C3, z3, f3⟩ := O.set H (x := y) hi
  obtain ⟨h4, s4, O4, C4, z4, f4⟩ := O3.set (Ch.wf C3) (i := j) (x := x) (by rw [List.length_set]; exact hj)
  have C34 := famv_then f3 (fun b e => (O.1.blk_lt e).1) C3 C4
  refine adraw_order [(0, false), (1, false), (2, false), (3, false), (4, false), (5, false), (6, false), (7, false), (8, false), (9, false), (10, false), (11, false), (12, false), (13, false), (14, false), (15, false)] mixed (by kernel_rfl) (by kernel_rfl) (by kernel_rfl) (by with_reducible repeat (first | exact PF_retK | refine PF_thenK ?_ | refine PF_blockK ?_)) ?_
  simp only [wk, wt, wl, ↓reduceIte, Nat.reduceEqDiff, Nat.reduceAdd, wz, dK_t, I1, L1, I2, L2, s3, s4]
  rw [swapL_eq hx hy]
  exact ⟨O4, C34⟩
theorem swapL_perm {l : List (Int × Int)} {i j : Nat} : (swapL l i j).Perm l := by
  unfold swapL
  split
  · rename_i x y hx hy
    obtain ⟨hi, ex⟩ := List.getElem?_eq_some_iff.1 hx
    obtain ⟨hj, ey⟩ := List.getElem?_eq_some_iff.1 hy
    have h := (Array.swap_perm (xs := l.toArray) (i := i) (j := j) (by simpa using hi) (by simpa using hj)).toList
    simp only [Array.toList_swap, List.getElem_toArray, ex, ey] at h
    exact h
  · exact List.Perm.refl _
theorem swapL_get {l : List (Int × Int)} {i j : Nat} {x y : Int × Int} (hx : l[i]? = some x) (hy : l[j]? = some y) (k : Nat) : (swapL l i j)[k]? = if k = j then some x else if k = i then some y else l[k]? := by
  rw [swapL_eq hx hy, List.getElem?_set, List.getElem?_set]
  have hi := (List.getElem?_eq_some_iff.1 hx).1
  have hj := (List.getElem?_eq_some_iff.1 hy).1
  by_cases e1 : k = j
  · subst e1; simp [hj]
  · rw [if_neg (fun e => e1 e.symm), if_neg e1]
    by_cases e2 : k = i
    · subst e2; simp [hi]
    · rw [if_neg (fun e => e2 e.symm), if_neg e2]
theorem less_ok {h : Heap} {v : Value} {l : List (Int × Int)} {i j : Nat} {x y : Int × Int} (O : OP h v l) (hx : l[i]? = some x) (hy : l[j]? = some y) :
    ACalls prog 108 #[v, .int .i64 (i : Int), .int .i64 (j : Int)] h (fun u h' => u = .bool (decide (x.1 < y.1)) ∧ h' = h) := by
  refine acalls_of_W func108 rfl (by kernel_rfl) (by kernel_rfl) (by simp [ntmps108]) ?_
  obtain ⟨I1, _, A1, _⟩ := O.at hx
  obtain ⟨I2, _, A2, _⟩ := O.at hy
  have X1 : aindexAddr prog 57 (.pointer (some (eltA v 2 i))) (.int .i64 0) = some (.pointer (some ⟨(eltA v 2 i).block, (eltA v 2 i).off + 0, none⟩)) := arr_index underlying57 asz3 (by omega) (by omega)
  have X2 : aindexAddr prog 57 (.pointer (some (eltA v 2 j))) (.int .i64 0) = some (.pointer (some ⟨(eltA v 2 j).block, (eltA v 2 j).off + 0, none⟩)) := arr_index underlying57 asz3 (by omega) (by omega)
  rw [eltA_eta] at X1 X2
  simp only [wk, wt, wl, ↓reduceIte, Nat.reduceEqDiff, Nat.reduceAdd, wz]
  refine adraw_order [(0, false), (1, false), (2, false), (3, false), (4, false), (5, false), (6, false), (7, false), (8, false), (9, false), (10, false), (11, false)] mixed (by kernel_rfl) (by kernel_rfl) (by kernel_rfl) (by with_reducible repeat (first | exact PF_retK | refine PF_thenK ?_ | refine PF_blockK ?_)) ?_
  simp only [wk, wt, wl, ↓reduceIte, Nat.reduceEqDiff, Nat.reduceAdd, wz, dK_t, I1, X1, A1, I2, X2, A2]
theorem lenP_ok {h : Heap} {v : Value} {l : List (Int × Int)} (O : OP h v l) : ACalls prog 32 #[v] h (fun u h' => u = .int .i64 l.length ∧ h' = h) := by
  refine acalls_of_W func32 rfl (by kernel_rfl) (by kernel_rfl) (by simp [ntmps32]) ?_
  simp only [wk, wt, wl, ↓reduceIte, Nat.reduceEqDiff, Nat.reduceAdd, wz, O.len]
theorem reverse_ok {h : Heap} {v : Value} {l : List (Int × Int)} (O : OP h v l) (hl : l.length ≤ 1000000) :
    ACalls prog 55 #[v] h (fun u h' => (∃ l', OP h' v l' ∧ l'.Perm l) ∧ Ch (FamV h v) h h') := by
  refine acalls_of_W' func55 rfl (by kernel_rfl) (by kernel_rfl) (by simp [ntmps55]) ?_
  intro H
  have w0 : IntKind.i64.wrap ((l.length : Int) - 1) = (l.length : Int) - 1 := IntWalk.i64_in _ (by omega)
  simp only [wk, wt, wl, ↓reduceIte, Nat.reduceEqDiff, Nat.reduceAdd, wz, O.len, w0]
  refine W_loop (fun tm hh => Ch (FamV h v) h hh ∧ tm 0 = v ∧ ∃ (i : Nat) (j : Int) (m : List (Int × Int)), tm 2 = .int .i64 (i : Int) ∧ tm 3 = .int .i64 j ∧ (i : Int) + j = (l.length : Int) - 1 ∧ OP hh v m ∧ m.Perm l ∧ i ≤ l.length) (fun tm _ => (l.length - intOf (tm 2)).toNat)
    ⟨Ch.mono (Keeps.refl H) (fun _ e => e.elim), (by first | rfl | (simp only [wk, wt, wl, ↓reduceIte, Nat.reduceEqDiff, Nat.reduceAdd, wz]; done) | (simp only [wk, wt, wl, ↓reduceIte, Nat.reduceEqDiff, Nat.reduceAdd, wz]; rfl)), 0, (l.length : Int) - 1, l, (by first | rfl | (simp only [wk, wt, wl, ↓reduceIte, Nat.reduceEqDiff, Nat.reduceAdd, wz]; done) | (simp only [wk, wt, wl, ↓reduceIte, Nat.reduceEqDiff, Nat.reduceAdd, wz]; rfl)), (by first | rfl | (simp only [wk, wt, wl, ↓reduceIte, Nat.reduceEqDiff, Nat.reduceAdd, wz]; done) | (simp only [wk, wt, wl, ↓reduceIte, Nat.reduceEqDiff, Nat.reduceAdd, wz]; rfl)), by omega, O, List.Perm.refl _, by omega⟩ ?_
  rintro tm hh ⟨C, t0, i, j, m, t2, t3, hij, Om, hp, hil⟩
  simp only [wk, wt, wl, ↓reduceIte, Nat.reduceEqDiff, Nat.reduceAdd, wz, t0, t2, t3]
  refine condK_dec (fun hd => ?_) (fun hd => ?_)
  · have hml := hp.length_eq
    obtain ⟨J, rfl⟩ : ∃ J : Nat, j = (J : Int) := ⟨j.toNat, by omega⟩
    obtain ⟨x, hx⟩ : ∃ x, m[i]? = some x := ⟨_, List.getElem?_eq_getElem (by omega)⟩
    obtain ⟨y, hy⟩ : ∃ y, m[J]? = some y := ⟨_, List.getElem?_eq_getElem (by omega)⟩
    obtain ⟨I1, L1, _⟩ := Om.at hx
    obtain ⟨I2, L2, _⟩ := Om.at hy
    obtain ⟨h3, s3, O3, C3, z3, f3⟩ := Om.set (Ch.wf C) (x := y) (i := i) (by omega)
    obtain ⟨h4, s4, O4, C4, z4, f4⟩ := O3.set (Ch.wf C3) (i := J) (x := x) (by rw [List.length_set]; omega)
    have C34 := famv_then f3 (fun b e => (Om.1.blk_lt e).1) C3 C4
    have wi : IntKind.i64.wrap ((i : Int) + 1) = ((i + 1 : Nat) : Int) := by rw [IntWalk.i64_in _ (by omega)]; omega
    have wj : IntKind.i64.wrap ((J : Int) - 1) = (J : Int) - 1 := IntWalk.i64_in _ (by omega)
    simp only [wk, wt, wl, ↓reduceIte, Nat.reduceEqDiff, Nat.reduceAdd, wz, t0, t2, t3]
    refine adraw_order [(0, false), (1, false), (2, false), (3, false), (4, false), (5, false), (6, false), (7, false), (8, false), (9, false), (10, false), (11, false), (12, false), (13, false), (14, false), (15, false)] mixed (by kernel_rfl) (by kernel_rfl) (by kernel_rfl) (by with_reducible repeat (first | exact PF_retK | refine PF_thenK ?_ | refine PF_blockK ?_)) ?_
    simp only [wk, wt, wl, ↓reduceIte, Nat.reduceEqDiff, Nat.reduceAdd, wz, dK_t, t0, t2, t3, I1, L1, I2, L2, s3, s4, wi, wj, intOf_int]
    refine ⟨⟨C.then C34 fun x F => FamV.back C (fun b e => (O.1.blk_lt e).1) F, i + 1, (J : Int) - 1, (m.set i y).set J x, rfl, rfl, by omega, O4, ?_, by omega⟩, by omega⟩
    rw [← swapL_eq hx hy]
    exact swapL_perm.trans hp
  · simp only [wk, wt, wl, ↓reduceIte, Nat.reduceEqDiff, Nat.reduceAdd, wz]
    exact ⟨⟨m, Om, hp⟩, C⟩
end Go.Proofs.YthmpaddhmgnkbaaDoor.Am
end
section
/- A heap of stretches: contracts of container/heap's down, Init and Pop over them, by walks. -/
set_option linter.unusedSimpArgs false
set_option linter.unusedVariables false
set_option maxHeartbeats 8000000
set_option maxRecDepth 20000
namespace Go.Proofs.YthmpaddhmgnkbaaDoor.Am
open Go Go.RowKit Go.Proofs.Tryd
/-- The pieces behind their pointer: a row of families Fs. -/
structure PQ (h : Heap) (Fs : Nat → Prop) (q : Nat) (pv : Value) (l : List (Int × Int)) : Prop where
  var : Var h q [pv]
  row : OP h pv l
  fam : Fam h Fs pv
  nq : ¬ Fs q
section
variable {h h' : Heap} {Fs : Nat → Prop} {q : Nat} {pv : Value} {l l' : List (Int × Int)}
theorem PQ.nb (Q : PQ h Fs q pv l) : blkOf pv ≠ some q := fun e => by
  obtain ⟨k, g, f⟩ := Q.var.fam
  have := Q.fam q k e g
  rw [f] at this
  exact Q.nq this
theorem PQ.load (Q : PQ h Fs q pv l) : aload prog h 76 ⟨q, 0, none⟩ = some pv := Q.var.load1 underlying76 rfl (i := 0)
theorem PQ.lt (Q : PQ h Fs q pv l) : ∀ z, blkOf pv = some z → z < h.size := fun z e => (Q.row.1.blk_lt e).1
/-- What the row's writing leaves. -/
theorem PQ.wrote (Q : PQ h Fs q pv l) (H : Wf h) (C : Ch (FamV h pv) h h') (O : OP h' pv l') : PQ h' Fs q pv l' ∧ Ch (Rg Fs h) h h' :=
  ⟨⟨Ch.var H C Q.var (Q.var.notFam Q.nb), O, Q.fam.ch C Q.lt, Q.nq⟩, C.mono fun x F => F.rg Q.fam⟩
end
theorem methLen : methF prog 53 "Len" = some (32, false) := by kernel_rfl
theorem methLess : methF prog 53 "Less" = some (108, false) := by kernel_rfl
theorem methSwap : methF prog 53 "Swap" = some (110, false) := by kernel_rfl
theorem methPop : methF prog 53 "Pop" = some (109, true) := by kernel_rfl
theorem undPP : prog.underlying 53 = some (.pointer 76) := by kernel_rfl
abbrev pIf (q : Nat) : Value := .iface 53 (.pointer (some ⟨q, 0, none⟩))
section
variable {h h' : Heap} {Fs : Nat → Prop} {q : Nat} {pv : Value} {l l' : List (Int × Int)}
theorem PQ.gLen (Q : PQ h Fs q pv l) : invG prog h "Len" (pIf q) = some (32, pv) := by simp only [invG, pIf, undPP, methLen, Q.load]
theorem PQ.gLess (Q : PQ h Fs q pv l) : invG prog h "Less" (pIf q) = some (108, pv) := by simp only [invG, pIf, undPP, methLess, Q.load]
theorem PQ.gSwap (Q : PQ h Fs q pv l) : invG prog h "Swap" (pIf q) = some (110, pv) := by simp only [invG, pIf, undPP, methSwap, Q.load]
theorem gPop : invG prog h "Pop" (pIf q) = some (109, .pointer (some ⟨q, 0, none⟩)) := by simp only [invG, pIf, undPP, methPop]
end
theorem bLen : hasBody prog 32 = true := by kernel_rfl
theorem bLess : hasBody prog 108 = true := by kernel_rfl
theorem bSwap : hasBody prog 110 = true := by kernel_rfl
theorem bPop : hasBody prog 109 = true := by kernel_rfl
/-- A heap from a place on, up to n. -/
def HeapF (l : List (Int × Int)) (n k : Nat) : Prop := ∀ (i j : Nat) x y, k ≤ i → (j = 2 * i + 1 ∨ j = 2 * i + 2) → j < n → l[i]? = some x → l[j]? = some y → x.1 ≤ y.1
theorem down_ok {h : Heap} {Fs : Nat → Prop} {q : Nat} {pv : Value} {l : List (Int × Int)} {i0 n : Nat} (Q : PQ h Fs q pv l) (hn : n ≤ l.length) (hl : l.length ≤ 1000000) (hi0 : i0 ≤ 1000000) (hh : HeapF l n (i0 + 1)) :
    ACalls prog 56 #[pIf q, .int .i64 (i0 : Int), .int .i64 (n : Int)] h (fun u h' => (∃ l', PQ h' Fs q pv l' ∧ l'.Perm l ∧ HeapF l' n i0 ∧ ∀ j, n ≤ j → l'[j]? = l[j]?) ∧ Ch (Rg Fs h) h h') := by
  refine acalls_of_W' func56 rfl (by kernel_rfl) (by kernel_rfl) (by simp [ntmps56]) ?_
  intro H
  simp only [wk, wt, wl, ↓reduceIte, Nat.reduceEqDiff, Nat.reduceAdd, wz]
  refine W_loop (fun tm hh => Ch (Rg Fs h) h hh ∧ tm 0 = pIf q ∧ tm 1 = .int .i64 (i0 : Int) ∧ tm 2 = .int .i64 (n : Int) ∧ ∃ (i : Nat) (m : List (Int × Int)), tm 7 = .int .i64 (i : Int) ∧ i0 ≤ i ∧ i ≤ l.length + i0 ∧ PQ hh Fs q pv m ∧ m.Perm l ∧ (∀ j, n ≤ j → m[j]? = l[j]?) ∧
      (∀ (p j : Nat) x y, i0 ≤ p → p ≠ i → (j = 2 * p + 1 ∨ j = 2 * p + 2) → j < n → m[p]? = some x → m[j]? = some y → x.1 ≤ y.1) ∧
      (∀ (p j : Nat) x y, i0 ≤ p → (i = 2 * p + 1 ∨ i = 2 * p + 2) → (j = 2 * i + 1 ∨ j = 2 * i + 2) → j < n → m[p]? = some x → m[j]? = some y → x.1 ≤ y.1)) (fun tm _ => (l.length + i0 + 1 - intOf (tm 7)).toNat)
    ⟨Ch.mono (Keeps.refl H) (fun _ e => e.elim), (by first | rfl | (simp only [wk, wt, wl, ↓reduceIte, Nat.reduceEqDiff, Nat.reduceAdd, wz]; done) | (simp only [wk, wt, wl, ↓reduceIte, Nat.reduceEqDiff, Nat.reduceAdd, wz]; rfl)), (by first | rfl | (simp only [wk, wt, wl, ↓reduceIte, Nat.reduceEqDiff, Nat.reduceAdd, wz]; done) | (simp only [wk, wt, wl, ↓reduceIte, Nat.reduceEqDiff, Nat.reduceAdd, wz]; rfl)), (by first | rfl | (simp only [wk, wt, wl, ↓reduceIte, Nat.reduceEqDiff, Nat.reduceAdd, wz]; done) | (simp only [wk, wt, wl, ↓reduceIte, Nat.reduceEqDiff, Nat.reduceAdd, wz]; rfl)), i0, l, (by first | rfl | (simp only [wk, wt, wl, ↓reduceIte, Nat.reduceEqDiff, Nat.reduceAdd, wz]; done) | (simp only [wk, wt, wl, ↓reduceIte, Nat.reduceEqDiff, Nat.reduceAdd, wz]; rfl)), by omega, by omega, Q, List.Perm.refl _, fun j _ => rfl, fun p j x y h1 h2 h3 h4 h5 h6 => hh p j x y (by omega) h3 h4 h5 h6, fun p j x y h1 h2 h3 h4 h5 h6 => by omega⟩ ?_
  rintro tm hh ⟨C, t0, t1, t2, i, m, t7, hi, hib, Qm, hp, hout, ha, hb⟩
  have hml := hp.length_eq
  have w1 : IntKind.i64.wrap (2 * (i : Int)) = 2 * (i : Int) := IntWalk.i64_in _ (by omega)
  have w2 : IntKind.i64.wrap (2 * (i : Int) + 1) = ((2 * i + 1 : Nat) : Int) := by rw [IntWalk.i64_in _ (by omega)]; omega
  have w3 : IntKind.i64.wrap (((2 * i + 1 : Nat) : Int) + 1) = ((2 * i + 2 : Nat) : Int) := by rw [IntWalk.i64_in _ (by omega)]; omega
  have fin : (∀ (j : Nat) x y, (j = 2 * i + 1 ∨ j = 2 * i + 2) → j < n → m[i]? = some x → m[j]? = some y → x.1 ≤ y.1) → HeapF m n i0 := fun g p j x y h1 h2 h3 h4 h5 => by
    by_cases e : p = i
    · subst e; exact g j x y h2 h3 h4 h5
    · exact ha p j x y h1 e h2 h3 h4 h5
  by_cases c1 : n ≤ 2 * i + 1
  · have d1 : decide ((n : Int) ≤ ((2 * i + 1 : Nat) : Int)) = true := decide_eq_true (by omega)
    simp only [wk, wt, wl, ↓reduceIte, Nat.reduceEqDiff, Nat.reduceAdd, wz, t0, t1, t2, t7, w1, w2, d1]
    exact ⟨⟨m, Qm, hp, fin fun j x y h1 h2 => by omega, hout⟩, C⟩
  have d1 : decide ((n : Int) ≤ ((2 * i + 1 : Nat) : Int)) = false := decide_eq_false (by omega)
  have d2 : decide (((2 * i + 1 : Nat) : Int) < 0) = false := decide_eq_false (by omega)
  obtain ⟨x, hx⟩ : ∃ x, m[i]? = some x := ⟨_, List.getElem?_eq_getElem (by omega)⟩
  obtain ⟨y1, hy1⟩ : ∃ y, m[2 * i + 1]? = some y := ⟨_, List.getElem?_eq_getElem (by omega)⟩
  have go : ∀ (j : Nat) (y : Int × Int), (j = 2 * i + 1 ∨ j = 2 * i + 2) → j < n → m[j]? = some y → (∀ (j' : Nat) y', (j' = 2 * i + 1 ∨ j' = 2 * i + 2) → j' < n → m[j']? = some y' → y.1 ≤ y'.1) → ¬ y.1 < x.1 → HeapF m n i0 := fun j y h1 h2 h3 h4 h5 => fin fun j' x' y' g1 g2 g3 g4 => by
    rw [hx] at g3; cases g3
    have := h4 j' y' g1 g2 g4
    omega
  have sw : ∀ (j : Nat) (y : Int × Int), (j = 2 * i + 1 ∨ j = 2 * i + 2) → j < n → m[j]? = some y → (∀ (j' : Nat) y', (j' = 2 * i + 1 ∨ j' = 2 * i + 2) → j' < n → m[j']? = some y' → y.1 ≤ y'.1) → y.1 < x.1 →
      (∀ (p j' : Nat) x' y', i0 ≤ p → p ≠ j → (j' = 2 * p + 1 ∨ j' = 2 * p + 2) → j' < n → (swapL m i j)[p]? = some x' → (swapL m i j)[j']? = some y' → x'.1 ≤ y'.1) ∧
      (∀ (p j' : Nat) x' y', i0 ≤ p → (j = 2 * p + 1 ∨ j = 2 * p + 2) → (j' = 2 * j + 1 ∨ j' = 2 * j + 2) → j' < n → (swapL m i j)[p]? = some x' → (swapL m i j)[j']? = some y' → x'.1 ≤ y'.1) ∧ ∀ j', n ≤ j' → (swapL m i j)[j']? = l[j']? := fun j y h1 h2 h3 h4 h5 => by
    refine ⟨fun p j' x' y' g1 g2 g3 g4 g5 g6 => ?_, fun p j' x' y' g1 g2 g3 g4 g5 g6 => ?_, fun j' g => ?_⟩
    · rw [swapL_get hx h3] at g5 g6
      rw [if_neg g2] at g5
      by_cases e1 : p = i
      · subst e1
        rw [if_pos rfl] at g5; cases g5
        by_cases e2 : j' = j
        · subst e2; rw [if_pos rfl] at g6; cases g6; omega
        · rw [if_neg e2, if_neg (by omega)] at g6
          exact h4 j' y' g3 g4 g6
      · rw [if_neg e1] at g5
        by_cases e2 : j' = j
        · omega
        · rw [if_neg e2] at g6
          by_cases e3 : j' = i
          · subst e3; rw [if_pos rfl] at g6; cases g6
            exact hb p j x' y g1 g3 h1 h2 g5 h3
          · rw [if_neg e3] at g6
            exact ha p j' x' y' g1 e1 g3 g4 g5 g6
    · have ep : p = i := by omega
      subst ep
      rw [swapL_get hx h3] at g5 g6
      rw [if_neg (by omega), if_pos rfl] at g5; cases g5
      rw [if_neg (by omega), if_neg (by omega)] at g6
      exact ha j j' y y' (by omega) (by omega) g3 g4 h3 g6
    · rw [swapL_get hx h3, if_neg (by omega), if_neg (by omega)]
      exact hout j' g
  by_cases c3 : 2 * i + 2 < n
  case neg =>
    have d3 : decide (((2 * i + 2 : Nat) : Int) < (n : Int)) = false := decide_eq_false (by omega)
    have only : ∀ (j' : Nat) y', (j' = 2 * i + 1 ∨ j' = 2 * i + 2) → j' < n → m[j']? = some y' → y1.1 ≤ y'.1 := fun j' y' h1 h2 h3 => by
      obtain rfl : j' = 2 * i + 1 := by omega
      rw [hy1] at h3; cases h3; omega
    simp only [wk, wt, wl, ↓reduceIte, Nat.reduceEqDiff, Nat.reduceAdd, wz, t0, t1, t2, t7, w1, w2, d1, d2, w3, d3, Qm.gLess, bLess]
    refine (less_ok Qm.row hy1 hx).use_pure ?_
    by_cases c5 : (y1).1 < x.1
    · have d5 := decide_eq_true c5
      obtain ⟨s1, s2, s3⟩ := sw (2 * i + 1) y1 (.inl rfl) (by omega) hy1 only c5
      simp only [wk, wt, wl, ↓reduceIte, Nat.reduceEqDiff, Nat.reduceAdd, wz, t0, t1, t2, t7, d5, Bool.not_true, Qm.gSwap, bSwap]
      refine (swap_ok (i := i) (j := (2 * i + 1)) Qm.row (by omega) (by omega)).use ?_
      rintro _ h5 ⟨O5, C5⟩
      obtain ⟨Q5, C5'⟩ := Qm.wrote (Ch.wf C) C5 O5
      simp only [wk, wt, wl, ↓reduceIte, Nat.reduceEqDiff, Nat.reduceAdd, wz, t0, t1, t2, t7, intOf_int]
      exact ⟨⟨C.thenR C5', (2 * i + 1), _, rfl, by omega, by omega, Q5, swapL_perm.trans hp, s3, s1, s2⟩, by omega⟩
    · have d5 := decide_eq_false c5
      simp only [wk, wt, wl, ↓reduceIte, Nat.reduceEqDiff, Nat.reduceAdd, wz, t0, t1, t2, t7, d5, Bool.not_false]
      exact ⟨⟨m, Qm, hp, go (2 * i + 1) y1 (.inl rfl) (by omega) hy1 only c5, hout⟩, C⟩
  have d3 : decide (((2 * i + 2 : Nat) : Int) < (n : Int)) = true := decide_eq_true (by omega)
  obtain ⟨y2, hy2⟩ : ∃ y, m[2 * i + 2]? = some y := ⟨_, List.getElem?_eq_getElem (by omega)⟩
  simp only [wk, wt, wl, ↓reduceIte, Nat.reduceEqDiff, Nat.reduceAdd, wz, t0, t1, t2, t7, w1, w2, d1, d2, w3, d3, Qm.gLess, bLess]
  refine (less_ok Qm.row hy2 hy1).use_pure ?_
  by_cases c4 : y2.1 < y1.1
  · have d4 := decide_eq_true c4
    have min : ∀ (j' : Nat) y', (j' = 2 * i + 1 ∨ j' = 2 * i + 2) → j' < n → m[j']? = some y' → y2.1 ≤ y'.1 := fun j' y' h1 h2 h3 => by
      rcases h1 with e | e <;> subst e
      · rw [hy1] at h3; cases h3; omega
      · rw [hy2] at h3; cases h3; omega
    simp only [wk, wt, wl, ↓reduceIte, Nat.reduceEqDiff, Nat.reduceAdd, wz, t0, t1, t2, t7, d4, Qm.gLess, bLess]
    refine (less_ok Qm.row hy2 hx).use_pure ?_
    by_cases c5 : (y2).1 < x.1
    · have d5 := decide_eq_true c5
      obtain ⟨s1, s2, s3⟩ := sw (2 * i + 2) y2 (.inr rfl) (by omega) hy2 min c5
      simp only [wk, wt, wl, ↓reduceIte, Nat.reduceEqDiff, Nat.reduceAdd, wz, t0, t1, t2, t7, d5, Bool.not_true, Qm.gSwap, bSwap]
      refine (swap_ok (i := i) (j := (2 * i + 2)) Qm.row (by omega) (by omega)).use ?_
      rintro _ h5 ⟨O5, C5⟩
      obtain ⟨Q5, C5'⟩ := Qm.wrote (Ch.wf C) C5 O5
      simp only [wk, wt, wl, ↓reduceIte, Nat.reduceEqDiff, Nat.reduceAdd, wz, t0, t1, t2, t7, intOf_int]
      exact ⟨⟨C.thenR C5', (2 * i + 2), _, rfl, by omega, by omega, Q5, swapL_perm.trans hp, s3, s1, s2⟩, by omega⟩
    · have d5 := decide_eq_false c5
      simp only [wk, wt, wl, ↓reduceIte, Nat.reduceEqDiff, Nat.reduceAdd, wz, t0, t1, t2, t7, d5, Bool.not_false]
      exact ⟨⟨m, Qm, hp, go (2 * i + 2) y2 (.inr rfl) (by omega) hy2 min c5, hout⟩, C⟩
  · have d4 := decide_eq_false c4
    have min : ∀ (j' : Nat) y', (j' = 2 * i + 1 ∨ j' = 2 * i + 2) → j' < n → m[j']? = some y' → y1.1 ≤ y'.1 := fun j' y' h1 h2 h3 => by
      rcases h1 with e | e <;> subst e
      · rw [hy1] at h3; cases h3; omega
      · rw [hy2] at h3; cases h3; omega
    simp only [wk, wt, wl, ↓reduceIte, Nat.reduceEqDiff, Nat.reduceAdd, wz, t0, t1, t2, t7, d4, Qm.gLess, bLess]
    refine (less_ok Qm.row hy1 hx).use_pure ?_
    by_cases c5 : (y1).1 < x.1
    · have d5 := decide_eq_true c5
      obtain ⟨s1, s2, s3⟩ := sw (2 * i + 1) y1 (.inl rfl) (by omega) hy1 min c5
      simp only [wk, wt, wl, ↓reduceIte, Nat.reduceEqDiff, Nat.reduceAdd, wz, t0, t1, t2, t7, d5, Bool.not_true, Qm.gSwap, bSwap]
      refine (swap_ok (i := i) (j := (2 * i + 1)) Qm.row (by omega) (by omega)).use ?_
      rintro _ h5 ⟨O5, C5⟩
      obtain ⟨Q5, C5'⟩ := Qm.wrote (Ch.wf C) C5 O5
      simp only [wk, wt, wl, ↓reduceIte, Nat.reduceEqDiff, Nat.reduceAdd, wz, t0, t1, t2, t7, intOf_int]
      exact ⟨⟨C.thenR C5', (2 * i + 1), _, rfl, by omega, by omega, Q5, swapL_perm.trans hp, s3, s1, s2⟩, by omega⟩
    · have d5 := decide_eq_false c5
      simp only [wk, wt, wl, ↓reduceIte, Nat.reduceEqDiff, Nat.reduceAdd, wz, t0, t1, t2, t7, d5, Bool.not_false]
      exact ⟨⟨m, Qm, hp, go (2 * i + 1) y1 (.inl rfl) (by omega) hy1 min c5, hout⟩, C⟩
end Go.Proofs.YthmpaddhmgnkbaaDoor.Am
end
section
/- A heap of stretches: contracts of container/heap's Init and Pop over them, by walks. -/
set_option linter.unusedSimpArgs false
set_option linter.unusedVariables false
set_option maxHeartbeats 8000000
set_option maxRecDepth 20000
namespace Go.Proofs.YthmpaddhmgnkbaaDoor.Am
open Go Go.RowKit Go.Proofs.Tryd
theorem init_ok {h : Heap} {Fs : Nat → Prop} {q : Nat} {pv : Value} {l : List (Int × Int)} (Q : PQ h Fs q pv l) (hl : l.length ≤ 1000000) :
    ACalls prog 31 #[pIf q] h (fun u h' => (∃ l', PQ h' Fs q pv l' ∧ l'.Perm l ∧ HeapF l' l.length 0) ∧ Ch (Rg Fs h) h h') := by
  refine acalls_of_W' func31 rfl (by kernel_rfl) (by kernel_rfl) (by simp [ntmps31]) ?_
  intro H
  simp only [wk, wt, wl, ↓reduceIte, Nat.reduceEqDiff, Nat.reduceAdd, wz, Q.gLen, bLen]
  refine (lenP_ok Q.row).use_pure ?_
  have hq : (l.length : Int).tdiv 2 = ((l.length / 2 : Nat) : Int) := by
    rw [Int.tdiv_eq_ediv_of_nonneg (by omega)]; omega
  have QQ := abin_quo (P := prog) (t := 3) (k := .i64) (x := (l.length : Int)) (y := 2) (by omega)
  rw [hq] at QQ
  have wq : IntKind.i64.wrap ((l.length / 2 : Nat) : Int) = ((l.length / 2 : Nat) : Int) := IntWalk.i64_in _ (by omega)
  have w1 : IntKind.i64.wrap (((l.length / 2 : Nat) : Int) - 1) = ((l.length / 2 : Nat) : Int) - 1 := IntWalk.i64_in _ (by omega)
  simp only [wk, wt, wl, ↓reduceIte, Nat.reduceEqDiff, Nat.reduceAdd, wz, QQ, wq, w1]
  refine W_loop (fun tm hh => Ch (Rg Fs h) h hh ∧ tm 0 = pIf q ∧ tm 2 = .int .i64 (l.length : Int) ∧ ∃ (k : Nat) (m : List (Int × Int)), tm 3 = .int .i64 ((k : Int) - 1) ∧ k ≤ l.length ∧ PQ hh Fs q pv m ∧ m.Perm l ∧ HeapF m l.length k) (fun tm _ => (intOf (tm 3) + 1).toNat)
    ⟨Ch.mono (Keeps.refl H) (fun _ e => e.elim), (by first | rfl | (simp only [wk, wt, wl, ↓reduceIte, Nat.reduceEqDiff, Nat.reduceAdd, wz]; done) | (simp only [wk, wt, wl, ↓reduceIte, Nat.reduceEqDiff, Nat.reduceAdd, wz]; rfl)), (by first | rfl | (simp only [wk, wt, wl, ↓reduceIte, Nat.reduceEqDiff, Nat.reduceAdd, wz]; done) | (simp only [wk, wt, wl, ↓reduceIte, Nat.reduceEqDiff, Nat.reduceAdd, wz]; rfl)), l.length / 2, l, (by first | rfl | (simp only [wk, wt, wl, ↓reduceIte, Nat.reduceEqDiff, Nat.reduceAdd, wz]; done) | (simp only [wk, wt, wl, ↓reduceIte, Nat.reduceEqDiff, Nat.reduceAdd, wz]; rfl)), by omega, Q, List.Perm.refl _, fun i j x y h1 h2 h3 h4 h5 => by omega⟩ ?_
  rintro tm hh ⟨C, t0, t2, k, m, t3, hk, Qm, hp, hH⟩
  have hml := hp.length_eq
  simp only [wk, wt, wl, ↓reduceIte, Nat.reduceEqDiff, Nat.reduceAdd, wz, t0, t2, t3]
  refine condK_dec (fun hd => ?_) (fun hd => ?_)
  · obtain ⟨k, rfl⟩ : ∃ k', k = k' + 1 := ⟨k - 1, by omega⟩
    have ek : ((k + 1 : Nat) : Int) - 1 = (k : Int) := by omega
    have w2 : IntKind.i64.wrap ((k : Int) - 1) = (k : Int) - 1 := IntWalk.i64_in _ (by omega)
    rw [ek] at t3
    simp only [wk, wt, wl, ↓reduceIte, Nat.reduceEqDiff, Nat.reduceAdd, wz, t0, t2, t3, ek]
    refine (down_ok (i0 := k) (n := l.length) Qm (by omega) (by omega) (by omega) hH).use ?_
    rintro _ h5 ⟨⟨m5, Q5, hp5, hH5, _⟩, C5⟩
    simp only [wk, wt, wl, ↓reduceIte, Nat.reduceEqDiff, Nat.reduceAdd, wz, t0, t2, t3, w2, intOf_int]
    exact ⟨⟨C.thenR C5, k, m5, rfl, by omega, Q5, hp5.trans hp, hH5⟩, by omega⟩
  · obtain rfl : k = 0 := by omega
    simp only [wk, wt, wl, ↓reduceIte, Nat.reduceEqDiff, Nat.reduceAdd, wz]
    exact ⟨⟨m, Qm, hp, hH⟩, C⟩
theorem popM_ok {h : Heap} {Fs : Nat → Prop} {q : Nat} {pv : Value} {l : List (Int × Int)} {x : Int × Int} (Q : PQ h Fs q pv l) (hl : l.length ≤ 1000000) (h0 : 0 < l.length) (hx : l[l.length - 1]? = some x) :
    ACalls prog 109 #[.pointer (some ⟨q, 0, none⟩)] h (fun u h' => u = .iface 57 (.agg #[.int .i64 x.1, .int .i64 x.2]) ∧ (∃ pv', PQ h' Fs q pv' (l.take (l.length - 1))) ∧ Ch (fun z => z = q) h h') := by
  refine acalls_of_W' func109 rfl (by kernel_rfl) (by kernel_rfl) (by simp [ntmps109]) ?_
  intro H
  have w1 : IntKind.i64.wrap ((l.length : Int) - 1) = ((l.length - 1 : Nat) : Int) := by rw [IntWalk.i64_in _ (by omega)]; omega
  obtain ⟨I1, L1, _⟩ := Q.row.at hx
  have N1 := Keeps.new H 57 [.int .i64 0, .int .i64 0]
  have V1 := Var.new (e := 57) H (cs := [.int .i64 0, .int .i64 0])
  obtain ⟨h2, s2, V2, C2, z2⟩ := V1.store (P := prog) (t := 57) (v := .agg #[.int .i64 x.1, .int .i64 x.2]) (i := 0) (Ch.wf N1) asz57 (by simp [Value.cells]) (by simp [Value.cells, one_int])
  rw [cells_two, over_all (xs := [.int .i64 0, .int .i64 0]) (vs := [.int .i64 x.1, .int .i64 x.2]) rfl] at V2
  have K2 := N1.step C2 fun y e => by omega
  have W2 := Keeps.var H K2 Q.var
  have hql := Q.var.lt H
  have SH := Rd.sliceHi (Q.row.rs.keeps K2) underlying76 asz57 (q' := .i64) (j := ((l.length - 1 : Nat) : Int)) (by omega) (by omega)
  rw [Int.toNat_natCast] at SH
  obtain ⟨h3, s3, V3, C3, z3⟩ := W2.store1 (P := prog) (t := 76) (v := sliceV pv 2 0 (l.length - 1)) (i := 0) (Ch.wf K2) asz76 (by simp) (by
    have hb : one (sliceV pv 2 0 (l.length - 1)) = true := by
      unfold sliceV; split <;> rfl
    exact hb)
  simp only [List.set_cons_zero] at V3
  have X3 := Ch.var (Ch.wf K2) C3 V2 (by omega)
  have LA := X3.loadA (P := prog) (t := 57) underlying57 rfl asz57
  have conc : prog.concrete 57 = true := by kernel_rfl
  simp only [wk, wt, wl, ↓reduceIte, Nat.reduceEqDiff, Nat.reduceAdd, wz, nilV_ptr, Q.load]
  simp only [wk, wt, wl, ↓reduceIte, Nat.reduceEqDiff, Nat.reduceAdd, wz, Q.row.len, w1, I1, L1, s2]
  simp only [wk, wt, wl, ↓reduceIte, Nat.reduceEqDiff, Nat.reduceAdd, wz, RS.len (RS.keeps Q.row.rs K2) underlying76, w1, SH, s3]
  simp only [wk, wt, wl, ↓reduceIte, Nat.reduceEqDiff, Nat.reduceAdd, wz, LA, conc]
  have hlen : (l.take (l.length - 1)).length = l.length - 1 := by rw [List.length_take]; omega
  have hbk : blkOf (sliceV pv 2 0 (l.length - 1)) = blkOf pv := sliceV_blk
  have CC : Ch (fun z => z = q) h h3 := Keeps.ch K2 C3 fun b e => by omega
  have row : OP h (sliceV pv 2 0 (l.length - 1)) (l.take (l.length - 1)) := by
    have := OwnR.part Q.row (L := 0) (H := l.length - 1) (by omega) (by omega)
    unfold OP
    rw [hlen, fm_take cP_len (by omega)]
    simpa using this
  refine ⟨⟨_, V3, Ch.ownR CC row fun z e e' => ?_, Fam.ch (v := sliceV pv 2 0 (l.length - 1)) (fun z k e g => Q.fam z k (by rw [← hbk]; exact e) g) CC fun z e => Q.lt z (by rw [← hbk]; exact e), Q.nq⟩, CC⟩
  rw [hbk] at e
  rw [e'] at e
  exact Q.nb e
/-- What a row's first one is in a heap: the least. -/
theorem heap_min {l : List (Int × Int)} {n : Nat} {x0 : Int × Int} (hH : HeapF l n 0) (h0 : l[0]? = some x0) : ∀ (j : Nat) y, j < n → l[j]? = some y → x0.1 ≤ y.1 := fun j => by
  induction j using Nat.strongRecOn with
  | ind j ih =>
    intro y hj hy
    rcases Nat.eq_zero_or_pos j with e | e
    · subst e; rw [h0] at hy; cases hy; omega
    · obtain ⟨p, hp⟩ : ∃ p, p = (j - 1) / 2 := ⟨_, rfl⟩
      have hpj : p < j := by omega
      have hl := (List.getElem?_eq_some_iff.1 hy).1
      obtain ⟨z, hz⟩ : ∃ z, l[p]? = some z := ⟨_, List.getElem?_eq_getElem (by omega)⟩
      have h1 := ih p hpj z (by omega) hz
      have h2 := hH p j z y (by omega) (by omega) hj hz hy
      omega
theorem pop_ok {h : Heap} {Fs : Nat → Prop} {q : Nat} {pv : Value} {l : List (Int × Int)} (Q : PQ h Fs q pv l) (hl : l.length ≤ 1000000) (h0 : 0 < l.length) (hH : HeapF l l.length 0) :
    ACalls prog 33 #[pIf q] h (fun u h' => (∃ (x : Int × Int) (pv' : Value) (l' : List (Int × Int)), u = .iface 57 (.agg #[.int .i64 x.1, .int .i64 x.2]) ∧ PQ h' Fs q pv' l' ∧ l.Perm (x :: l') ∧ HeapF l' l'.length 0 ∧ ∀ y, y ∈ l → x.1 ≤ y.1) ∧ Ch (Rg (fun n => Fs n ∨ n = q) h) h h') := by
  refine acalls_of_W' func33 rfl (by kernel_rfl) (by kernel_rfl) (by simp [ntmps33]) ?_
  intro H
  obtain ⟨n, hn⟩ : ∃ n, l.length = n + 1 := ⟨l.length - 1, by omega⟩
  have w1 : IntKind.i64.wrap ((l.length : Int) - 1) = (n : Int) := by rw [IntWalk.i64_in _ (by omega)]; omega
  obtain ⟨x, hx⟩ : ∃ x, l[0]? = some x := ⟨_, List.getElem?_eq_getElem h0⟩
  obtain ⟨y, hy⟩ : ∃ y, l[n]? = some y := ⟨_, List.getElem?_eq_getElem (by omega)⟩
  have hmin : ∀ z, z ∈ l → x.1 ≤ z.1 := fun z hz => by
    obtain ⟨j, hj⟩ := List.mem_iff_getElem?.1 hz
    exact heap_min hH hx j z (List.getElem?_eq_some_iff.1 hj).1 hj
  simp only [wk, wt, wl, ↓reduceIte, Nat.reduceEqDiff, Nat.reduceAdd, wz, Q.gLen, bLen]
  refine (lenP_ok Q.row).use_pure ?_
  simp only [wk, wt, wl, ↓reduceIte, Nat.reduceEqDiff, Nat.reduceAdd, wz, w1, Q.gSwap, bSwap]
  have sw := swap_ok (i := 0) (j := n) Q.row (by omega) (by omega)
  refine sw.use ?_
  rintro _ h3 ⟨O3, C3⟩
  obtain ⟨Q3, C3'⟩ := Q.wrote H C3 O3
  have hsl := swapL_len (l := l) (i := 0) (j := n)
  have hH3 : HeapF (swapL l 0 n) n (0 + 1) := fun i j a b h1 h2 h3 h4 h5 => by
    rw [swapL_get hx hy, if_neg (by omega), if_neg (by omega)] at h4 h5
    exact hH i j a b (by omega) h2 (by omega) h4 h5
  simp only [wk, wt, wl, ↓reduceIte, Nat.reduceEqDiff, Nat.reduceAdd, wz]
  have dn := down_ok (i0 := 0) (n := n) Q3 (by omega) (by omega) (by omega) hH3
  refine dn.use ?_
  rintro _ h4 ⟨⟨m, Q4, hp4, hH4, hout⟩, C4⟩
  have hm : m.length = n + 1 := by have := hp4.length_eq; omega
  have hlast : m[m.length - 1]? = some x := by
    rw [hm, show n + 1 - 1 = n from by omega, hout n (by omega), swapL_get hx hy, if_pos rfl]
  simp only [wk, wt, wl, ↓reduceIte, Nat.reduceEqDiff, Nat.reduceAdd, wz, gPop, bPop]
  have pm := popM_ok Q4 (by omega) (by omega) hlast
  refine pm.use ?_
  rintro _ h5 ⟨rfl, ⟨pv', Q5⟩, C5⟩
  simp only [wk, wt, wl, ↓reduceIte, Nat.reduceEqDiff, Nat.reduceAdd, wz]
  have C34 := C3'.thenR C4
  have e1 : (m.take (m.length - 1)) ++ [x] = m := by
    have := List.take_add_one (l := m) (i := m.length - 1)
    rw [hlast, show m.length - 1 + 1 = m.length from by omega, List.take_length] at this
    exact this.symm
  have hp : l.Perm (x :: m.take (m.length - 1)) := by
    have p1 : m.Perm l := hp4.trans swapL_perm
    have p2 : (m.take (m.length - 1) ++ [x]).Perm (x :: m.take (m.length - 1)) := List.perm_append_singleton _ _
    rw [e1] at p2
    exact p1.symm.trans p2
  refine ⟨⟨x, pv', m.take (m.length - 1), rfl, Q5, hp, ?_, hmin⟩, ?_⟩
  · intro i j a b g1 g2 g3 g4 g5
    rw [List.length_take] at g3
    rw [List.getElem?_take, if_pos (by omega)] at g4 g5
    exact hH4 i j a b g1 g2 (by omega) g4 g5
  · have C34' : Ch (Rg (fun n => Fs n ∨ n = q) h) h h4 := C34.mono fun z r => r.mono fun n e => .inl e
    refine C34'.then C5 fun z e => ?_
    subst e
    obtain ⟨k, g, f⟩ := Q.var.fam
    exact .inr ⟨k, g, .inr f⟩
end Go.Proofs.YthmpaddhmgnkbaaDoor.Am
end
section
/- What changed, plain: stretches of changed cells, one behind the other; which cells they have. -/
set_option linter.unusedSimpArgs false
set_option linter.unusedVariables false
set_option maxHeartbeats 4000000
namespace Go.Proofs.YthmpaddhmgnkbaaDoor.Am
open Go Go.RowKit Go.Proofs.Tryd
/-- Did a cell change? -/
def chgB (o n : List Cel) (i : Nat) : Bool := decide (o[i]? ≠ n[i]?)
/-- A right half. -/
def bareB (n : List Cel) (i : Nat) : Bool := n[i]?.any fun c => decide (c.tx = [])
/-- Whether a cell is told: it changed, or its right half did. -/
def toldB (o n : List Cel) (i : Nat) : Bool := chgB o n i || (decide (i + 1 < n.length) && chgB o n (i + 1) && bareB n (i + 1))
def toldL (o n : List Cel) : List Nat := (List.range n.length).filter (toldB o n)
def pieceF (n : List Cel) (i : Nat) : Int := if bareB n i = true then (i : Int) - 1 else i
def pieceS (ps : List (Int × Int)) (f : Int) (i : Nat) : List (Int × Int) :=
  match ps.getLast? with
  | some p => if f ≤ p.2 then ps.set (ps.length - 1) (p.1, (i : Int) + 1) else ps ++ [(f, (i : Int) + 1)]
  | none => ps ++ [(f, (i : Int) + 1)]
def piecesL (o n : List Cel) : Nat → List (Int × Int)
  | 0 => []
  | i + 1 => if chgB o n i = true then pieceS (piecesL o n i) (pieceF n i) i else piecesL o n i
def Tld (o n : List Cel) (i j : Nat) : Prop := (j < i ∧ chgB o n j = true) ∨ (j + 1 < i ∧ chgB o n (j + 1) = true ∧ bareB n (j + 1) = true)
/-- Stretches up to a cell. -/
structure PI (o n : List Cel) (i : Nat) (S : List (Int × Int)) : Prop where
  ok : ∀ p, p ∈ S → 0 ≤ p.1 ∧ p.1 < p.2 ∧ p.2 ≤ i
  sep : S.Pairwise fun p q => p.2 < q.1
  mem : ∀ j : Nat, (∃ p, p ∈ S ∧ p.1 ≤ j ∧ (j : Int) < p.2) ↔ Tld o n i j
theorem PI.zero {o n : List Cel} : PI o n 0 [] := ⟨fun p h => by simp at h, List.Pairwise.nil, fun j => ⟨fun ⟨p, h, _⟩ => by simp at h, fun h => by rcases h with h | h <;> omega⟩⟩
theorem PI.same {o n : List Cel} {i : Nat} {S : List (Int × Int)} (P : PI o n i S) (hc : chgB o n i = false) : PI o n (i + 1) S :=
  ⟨fun p h => by have := P.ok p h; omega, P.sep, fun j => (P.mem j).trans ⟨fun h => by
    rcases h with h | h
    · exact .inl ⟨by omega, h.2⟩
    · exact .inr ⟨by omega, h.2⟩, fun h => by
    rcases h with ⟨h1, h2⟩ | ⟨h1, h2, h3⟩
    · by_cases e : j = i
      · subst e; rw [hc] at h2; cases h2
      · exact .inl ⟨by omega, h2⟩
    · by_cases e : j + 1 = i
      · rw [e, hc] at h2; cases h2
      · exact .inr ⟨by omega, h2, h3⟩⟩⟩
theorem tld_step {o n : List Cel} {i j : Nat} (hc : chgB o n i = true) : Tld o n (i + 1) j ↔ Tld o n i j ∨ j = i ∨ (bareB n i = true ∧ j + 1 = i) := by
  constructor
  · intro h
    rcases h with ⟨h1, h2⟩ | ⟨h1, h2, h3⟩
    · by_cases e : j = i
      · exact .inr (.inl e)
      · exact .inl (.inl ⟨by omega, h2⟩)
    · by_cases e : j + 1 = i
      · rw [e] at h3; exact .inr (.inr ⟨h3, e⟩)
      · exact .inl (.inr ⟨by omega, h2, h3⟩)
  · intro h
    rcases h with (⟨h1, h2⟩ | ⟨h1, h2, h3⟩) | rfl | ⟨h1, h2⟩
    · exact .inl ⟨by omega, h2⟩
    · exact .inr ⟨by omega, h2, h3⟩
    · exact .inl ⟨by omega, hc⟩
    · exact .inr ⟨by omega, by rw [h2]; exact hc, by rw [h2]; exact h1⟩
theorem last_split {S : List (Int × Int)} {p : Int × Int} (h : S.getLast? = some p) : ∃ T, S = T ++ [p] := by
  obtain ⟨T, rfl⟩ := List.getLast?_eq_some_iff.1 h
  exact ⟨T, rfl⟩
theorem PI.step {o n : List Cel} {i : Nat} {S : List (Int × Int)} (P : PI o n i S) (hc : chgB o n i = true) (hb : bareB n i = true → 1 ≤ i) : PI o n (i + 1) (pieceS S (pieceF n i) i) := by
  have hf : (bareB n i = true ∧ pieceF n i = (i : Int) - 1 ∧ 1 ≤ i) ∨ (¬ bareB n i = true ∧ pieceF n i = i) := by
    unfold pieceF
    by_cases e : bareB n i = true
    · left; rw [if_pos e]; exact ⟨e, rfl, hb e⟩
    · right; rw [if_neg e]; exact ⟨e, rfl⟩
  have plus : (∀ p, p ∈ S → p.2 < pieceF n i) → PI o n (i + 1) (S ++ [(pieceF n i, (i : Int) + 1)]) := fun h => by
    refine ⟨fun p hp => ?_, ?_, fun j => ?_⟩
    · rw [List.mem_append, List.mem_singleton] at hp
      rcases hp with hp | rfl
      · have := P.ok p hp; omega
      · simp only; omega
    · rw [List.pairwise_append]
      exact ⟨P.sep, List.pairwise_singleton _ _, fun p hp q hq => by rw [List.mem_singleton] at hq; subst hq; exact h p hp⟩
    · rw [tld_step hc, ← P.mem j]
      constructor
      · rintro ⟨p, hp, h1, h2⟩
        rw [List.mem_append, List.mem_singleton] at hp
        rcases hp with hp | rfl
        · exact .inl ⟨p, hp, h1, h2⟩
        · simp only at h1 h2
          rcases hf with ⟨e1, e2, e3⟩ | ⟨e1, e2⟩
          · by_cases e : j = i
            · exact .inr (.inl e)
            · exact .inr (.inr ⟨e1, by omega⟩)
          · exact .inr (.inl (by omega))
      · rintro (⟨p, hp, h1, h2⟩ | rfl | ⟨h1, h2⟩)
        · exact ⟨p, by simp [hp], h1, h2⟩
        · exact ⟨(pieceF n j, (j : Int) + 1), by simp, by simp only; omega, by simp only; omega⟩
        · refine ⟨(pieceF n i, (i : Int) + 1), by simp, ?_, by simp only; omega⟩
          rcases hf with ⟨_, e2, _⟩ | ⟨e1, _⟩
          · simp only; omega
          · exact absurd h1 e1
  unfold pieceS
  cases hl : S.getLast? with
  | none =>
    rw [List.getLast?_eq_none_iff] at hl
    subst hl
    exact plus fun p hp => by simp at hp
  | some p =>
    obtain ⟨T, rfl⟩ := last_split hl
    simp only
    have sep := P.sep
    rw [List.pairwise_append] at sep
    have hlast := P.ok p (by simp)
    have hT : ∀ q, q ∈ T → q.2 < p.1 := fun q hq => sep.2.2 q hq p (by simp)
    by_cases hfp : pieceF n i ≤ p.2
    · rw [if_pos hfp]
      have hset : (T ++ [p]).set ((T ++ [p]).length - 1) (p.1, (i : Int) + 1) = T ++ [(p.1, (i : Int) + 1)] := by
        rw [List.length_append, List.length_singleton, Nat.add_sub_cancel, List.set_append_right _ _ (Nat.le_refl _), Nat.sub_self]; rfl
      rw [hset]
      refine ⟨fun q hq => ?_, ?_, fun j => ?_⟩
      · rw [List.mem_append, List.mem_singleton] at hq
        rcases hq with hq | rfl
        · have := P.ok q (by simp [hq]); omega
        · simp only; omega
      · rw [List.pairwise_append]
        exact ⟨sep.1, List.pairwise_singleton _ _, fun q hq r hr => by rw [List.mem_singleton] at hr; subst hr; exact hT q hq⟩
      · rw [tld_step hc, ← P.mem j]
        constructor
        · rintro ⟨q, hq, h1, h2⟩
          rw [List.mem_append, List.mem_singleton] at hq
          rcases hq with hq | rfl
          · exact .inl ⟨q, by simp [hq], h1, h2⟩
          · simp only at h1 h2
            by_cases e : (j : Int) < p.2
            · exact .inl ⟨p, by simp, h1, e⟩
            · right
              rcases hf with ⟨e1, e2, e3⟩ | ⟨e1, e2⟩
              · by_cases e' : j = i
                · exact .inl e'
                · exact .inr ⟨e1, by omega⟩
              · exact .inl (by omega)
        · rintro (⟨q, hq, h1, h2⟩ | rfl | ⟨h1, h2⟩)
          · rw [List.mem_append, List.mem_singleton] at hq
            rcases hq with hq | rfl
            · exact ⟨q, by simp [hq], h1, h2⟩
            · exact ⟨(q.1, (i : Int) + 1), by simp, h1, by simp only; omega⟩
          · exact ⟨(p.1, (j : Int) + 1), by simp, by simp only; omega, by simp only; omega⟩
          · exact ⟨(p.1, (i : Int) + 1), by simp, by simp only; omega, by simp only; omega⟩
    · rw [if_neg hfp]
      refine plus fun q hq => ?_
      rw [List.mem_append, List.mem_singleton] at hq
      rcases hq with hq | rfl
      · have := hT q hq; omega
      · omega
theorem pieces_PI {o n : List Cel} (h0 : ∀ i, bareB n i = true → 1 ≤ i) : ∀ i, PI o n i (piecesL o n i)
  | 0 => PI.zero
  | i + 1 => by
    unfold piecesL
    cases hc : chgB o n i with
    | false => exact (pieces_PI h0 i).same hc
    | true => exact (pieces_PI h0 i).step hc (h0 i)
theorem pieces_len {o n : List Cel} : ∀ i, (piecesL o n i).length ≤ i
  | 0 => Nat.le_refl _
  | i + 1 => by
    have := pieces_len (o := o) (n := n) i
    unfold piecesL
    split
    · unfold pieceS
      split
      · split
        · rw [List.length_set]; omega
        · simp only [List.length_append, List.length_singleton]; omega
      · simp only [List.length_append, List.length_singleton]; omega
    · omega
/-- The cells of a stretch. -/
def rngL (p : Int × Int) : List Nat := List.range' p.1.toNat (p.2 - p.1).toNat
theorem rng_mem {p : Int × Int} {j : Nat} (h0 : 0 ≤ p.1) : j ∈ rngL p ↔ p.1 ≤ j ∧ (j : Int) < p.2 := by
  unfold rngL
  rw [List.mem_range'_1]
  omega
theorem asc_eq : ∀ {a b : List Nat}, a.Pairwise (· < ·) → b.Pairwise (· < ·) → (∀ x, x ∈ a ↔ x ∈ b) → a = b
  | [], [], _, _, _ => rfl
  | [], y :: b, _, _, h => absurd ((h y).2 (by simp)) (by simp)
  | x :: a, [], _, _, h => absurd ((h x).1 (by simp)) (by simp)
  | x :: a, y :: b, ha, hb, h => by
    rw [List.pairwise_cons] at ha hb
    have e : x = y := by
      have h1 := (h x).1 (by simp)
      have h2 := (h y).2 (by simp)
      rw [List.mem_cons] at h1 h2
      rcases h1 with h1 | h1
      · exact h1
      · rcases h2 with h2 | h2
        · exact h2.symm
        · have := hb.1 x h1; have := ha.1 y h2; omega
    subst e
    rw [asc_eq ha.2 hb.2 fun z => ?_]
    constructor
    · intro hz
      have := (h z).1 (by simp [hz])
      rw [List.mem_cons] at this
      rcases this with e | e
      · subst e; have := ha.1 z hz; omega
      · exact e
    · intro hz
      have := (h z).2 (by simp [hz])
      rw [List.mem_cons] at this
      rcases this with e | e
      · subst e; have := hb.1 z hz; omega
      · exact e
theorem flat_asc : ∀ {S : List (Int × Int)}, (∀ p, p ∈ S → 0 ≤ p.1 ∧ p.1 < p.2) → S.Pairwise (fun p q => p.2 < q.1) → (S.flatMap rngL).Pairwise (· < ·)
  | [], _, _ => by simp
  | p :: S, h, hs => by
    rw [List.pairwise_cons] at hs
    rw [List.flatMap_cons, List.pairwise_append]
    refine ⟨List.pairwise_lt_range', flat_asc (fun q hq => h q (by simp [hq])) hs.2, fun x hx y hy => ?_⟩
    obtain ⟨q, hq, hyq⟩ := List.mem_flatMap.1 hy
    have h1 := (rng_mem (h p (by simp)).1).1 hx
    have h2 := (rng_mem (h q (by simp [hq])).1).1 hyq
    have := hs.1 q hq
    omega
/-- The stretches' cells are just those that are told. -/
theorem pieces_told {o n : List Cel} (h0 : ∀ i, bareB n i = true → 1 ≤ i) : (piecesL o n n.length).flatMap rngL = toldL o n := by
  have P := pieces_PI (o := o) h0 n.length
  refine asc_eq (flat_asc (fun p hp => ⟨(P.ok p hp).1, (P.ok p hp).2.1⟩) P.sep) (List.Pairwise.filter _ List.pairwise_lt_range) fun j => ?_
  rw [List.mem_flatMap]
  have e1 : (∃ p, p ∈ piecesL o n n.length ∧ j ∈ rngL p) ↔ ∃ p, p ∈ piecesL o n n.length ∧ p.1 ≤ j ∧ (j : Int) < p.2 :=
    ⟨fun ⟨p, h1, h2⟩ => ⟨p, h1, (rng_mem (P.ok p h1).1).1 h2⟩, fun ⟨p, h1, h2⟩ => ⟨p, h1, (rng_mem (P.ok p h1).1).2 h2⟩⟩
  rw [e1, P.mem j]
  unfold toldL toldB Tld
  rw [List.mem_filter, List.mem_range]
  simp only [Bool.or_eq_true, Bool.and_eq_true, decide_eq_true_eq]
  constructor
  · rintro (⟨h1, h2⟩ | ⟨h1, h2, h3⟩)
    · exact ⟨h1, .inl h2⟩
    · exact ⟨by omega, .inr ⟨⟨h1, h2⟩, h3⟩⟩
  · rintro ⟨h1, h2 | ⟨⟨h2, h3⟩, h4⟩⟩
    · exact .inl ⟨h1, h2⟩
    · exact .inr ⟨h2, h3, h4⟩
end Go.Proofs.YthmpaddhmgnkbaaDoor.Am
end
section
/- What changed: the contract of emit.changed, by a walk. -/
set_option linter.unusedSimpArgs false
set_option linter.unusedVariables false
set_option maxHeartbeats 8000000
set_option maxRecDepth 20000
namespace Go.Proofs.YthmpaddhmgnkbaaDoor.Am
open Go Go.RowKit Go.Proofs.Tryd
theorem set_cP : ∀ {l : List (Int × Int)} {k : Nat} {x : Int × Int} {z : Int}, l[k]? = some x → (l.flatMap cP).set (k * 2 + 1) (.int .i64 z) = (l.set k (x.1, z)).flatMap cP
  | [], k, x, z, h => by simp at h
  | y :: l, 0, x, z, h => by simp at h; subst h; rfl
  | y :: l, k + 1, x, z, h => by
    have := set_cP (l := l) (k := k) (x := x) (z := z) (by simpa using h)
    rw [List.flatMap_cons, List.set_cons_succ, List.flatMap_cons, ← this, show (k + 1) * 2 + 1 = (k * 2 + 1) + 1 + 1 from by omega]
    rfl
theorem fam_ge0 {h h' : Heap} {v : Value} (K : Keeps h h') (hz : ∀ z, blkOf v = some z → h.size ≤ z) : ∀ x, FamV h' v x → h.size ≤ x := fun x F => by
  obtain ⟨k, g, f, _⟩ := FamV.rg (Fam.freshK K hz) F
  have := (Ch.wf K).2 x k g
  omega
theorem bsP {h : Heap} {x y : Int} : abuildSlice prog h 76 1 #[(0, .agg #[.int .i64 x, .int .i64 y])] = some (.slice (some ⟨h.size, 0, none⟩) 1 2, h.new 57 (cP (x, y))) := by
  simp [abuildSlice, underlying76, asz57, azero57, firstOf, Instr.fill, Value.cells, one, cP]
  exact ⟨by kernel_rfl, by kernel_rfl⟩
theorem changed_ok {h : Heap} {va vb : Value} {a b : GM} (A : GR h va a.l) (B : GR h vb b.l) (hab : a.l.length = b.l.length) (hl : b.l.length ≤ 500000) (hT : TxB a.l) (h0 : ∀ i, bareB b.l i = true → 1 ≤ i) :
    ACalls prog 30 #[mV a va, mV b vb] h (fun v h' => ∃ (q : Nat) (pv : Value) (l' : List (Int × Int)), v = pt q ∧ h.size ≤ q ∧ q < h'.size ∧ PQ h' (fun n => h.size ≤ n ∧ n < h'.size ∧ n ≠ q) q pv l' ∧ l'.Perm (piecesL a.l b.l b.l.length) ∧ Keeps h h') := by
  refine acalls_of_W' func30 rfl (by kernel_rfl) (by kernel_rfl) (by simp [ntmps30]) ?_
  intro H
  have o1 := A.one
  have o2 := B.one
  have N1 := Keeps.new H 24 (mC a va)
  have V1 := Var.new (e := 24) H (cs := mC a va)
  have hz1 : (h.new 24 (mC a va)).size = h.size + 1 := rfl
  have N2 := Keeps.new (Ch.wf N1) 24 (mC b vb)
  have V2 := Var.new (e := 24) (Ch.wf N1) (cs := mC b vb)
  rw [hz1] at V2
  have V12 := Keeps.var (Ch.wf N1) N2 V1
  have K2 := N1.trans N2
  have hz2 : ((h.new 24 (mC a va)).new 24 (mC b vb)).size = h.size + 2 := rfl
  simp only [wk, wt, wl, ↓reduceIte, Nat.reduceEqDiff, Nat.reduceAdd, wz, pt, aeff_box, boxV_mgrid o1, boxV_mgrid o2, hz1, newSz]
  generalize (h.new 24 (mC a va)).new 24 (mC b vb) = h2 at *
  have N3 := Keeps.new (Ch.wf K2) 57 []
  have O3 : OS prog h.size (h2.new 57 []) 2 cP (.slice (some ⟨h2.size, 0, none⟩) 0 1) ([] : List (Int × Int)) := Own.new (Ch.wf K2) (by omega) asz57 (by simp)
  have hz3 : (h2.new 57 []).size = h.size + 3 := by rw [newSz, hz2]
  have hb3 : boxV prog (h2.new 57 []) 76 (.slice (some ⟨h2.size, 0, none⟩) 0 1) = some (.pointer (some ⟨(h2.new 57 []).size, 0, none⟩), (h2.new 57 []).new 76 [.slice (some ⟨h2.size, 0, none⟩) 0 1]) := by
    simp [boxV, asz76, Value.cells, one]
  simp only [wk, wt, wl, ↓reduceIte, Nat.reduceEqDiff, Nat.reduceAdd, wz, build0 underlying76 asz57, aeff_box, hb3]
  rw [hz3]
  have N4 := Keeps.new (Ch.wf N3) 76 [.slice (some ⟨h2.size, 0, none⟩) 0 1]
  have V4 := Var.new (e := 76) (Ch.wf N3) (cs := [.slice (some ⟨h2.size, 0, none⟩) 0 1])
  rw [hz3] at V4
  have O4 := O3.keeps N4
  have K4 := (K2.trans N3).trans N4
  have W1 := Keeps.var (Ch.wf N3) N4 (Keeps.var (Ch.wf K2) N3 V12)
  have W2 := Keeps.var (Ch.wf N3) N4 (Keeps.var (Ch.wf K2) N3 V2)
  have ro3 : ∃ k, (h2.new 57 []).get h2.size = some k ∧ k.ro = false := ⟨_, new_self, rfl⟩
  have hz4 : ((h2.new 57 []).new 76 [.slice (some ⟨h2.size, 0, none⟩) 0 1]).size = h.size + 4 := by rw [newSz, hz3]
  generalize (h2.new 57 []).new 76 [.slice (some ⟨h2.size, 0, none⟩) 0 1] = h4 at *
  obtain ⟨_, _, r2, _⟩ := grid_load W2
  have ro4 : ∀ z, blkOf (.slice (some ⟨h2.size, 0, none⟩) 0 1) = some z → ∃ k, h4.get z = some k ∧ k.ro = false := fun z e => by
    have e' : h2.size = z := by cases e; rfl
    subst e'
    obtain ⟨k, g1, g2⟩ := ro3
    exact ⟨k, (N4.at (by omega)).trans g1, g2⟩
  simp only [wk, wt, wl, ↓reduceIte, Nat.reduceEqDiff, Nat.reduceAdd, wz, r2, (B.keeps K4).len]
  refine W_loop (fun tm hh => Keeps h hh ∧ h4.size ≤ hh.size ∧ tm 2 = pt h.size ∧ tm 3 = pt (h.size + 1) ∧ tm 5 = pt (h.size + 3) ∧ tm 13 = .int .i64 (b.l.length : Int) ∧ Var hh h.size (mC a va) ∧ Var hh (h.size + 1) (mC b vb) ∧ ∃ (i : Nat) (pv : Value), tm 14 = .int .i64 (i : Int) ∧ i ≤ b.l.length ∧ Var hh (h.size + 3) [pv] ∧
      OS prog h.size hh 2 cP pv (piecesL a.l b.l i) ∧ (∀ z, blkOf pv = some z → h.size + 2 ≤ z ∧ z ≠ h.size + 3) ∧ (0 < (piecesL a.l b.l i).length → ∃ x, pv = .slice (some x) (piecesL a.l b.l i).length 0) ∧ ((piecesL a.l b.l i).length = 0 → ∀ z, blkOf pv = some z → ∃ k, hh.get z = some k ∧ k.ro = false)) (fun tm _ => (b.l.length - intOf (tm 14)).toNat)
    ⟨K4, Nat.le_refl _, (by first | rfl | (simp only [wk, wt, wl, ↓reduceIte, Nat.reduceEqDiff, Nat.reduceAdd, wz]; done) | (simp only [wk, wt, wl, ↓reduceIte, Nat.reduceEqDiff, Nat.reduceAdd, wz]; rfl) | (simp only [wk, wt, wl, ↓reduceIte, Nat.reduceEqDiff, Nat.reduceAdd, wz, pt]; done) | (simp only [wk, wt, wl, ↓reduceIte, Nat.reduceEqDiff, Nat.reduceAdd, wz, pt]; rfl)), (by first | rfl | (simp only [wk, wt, wl, ↓reduceIte, Nat.reduceEqDiff, Nat.reduceAdd, wz]; done) | (simp only [wk, wt, wl, ↓reduceIte, Nat.reduceEqDiff, Nat.reduceAdd, wz]; rfl) | (simp only [wk, wt, wl, ↓reduceIte, Nat.reduceEqDiff, Nat.reduceAdd, wz, pt]; done) | (simp only [wk, wt, wl, ↓reduceIte, Nat.reduceEqDiff, Nat.reduceAdd, wz, pt]; rfl)), (by first | rfl | (simp only [wk, wt, wl, ↓reduceIte, Nat.reduceEqDiff, Nat.reduceAdd, wz]; done) | (simp only [wk, wt, wl, ↓reduceIte, Nat.reduceEqDiff, Nat.reduceAdd, wz]; rfl) | (simp only [wk, wt, wl, ↓reduceIte, Nat.reduceEqDiff, Nat.reduceAdd, wz, pt]; done) | (simp only [wk, wt, wl, ↓reduceIte, Nat.reduceEqDiff, Nat.reduceAdd, wz, pt]; rfl)), (by first | rfl | (simp only [wk, wt, wl, ↓reduceIte, Nat.reduceEqDiff, Nat.reduceAdd, wz]; done) | (simp only [wk, wt, wl, ↓reduceIte, Nat.reduceEqDiff, Nat.reduceAdd, wz]; rfl)), W1, W2, 0, .slice (some ⟨h2.size, 0, none⟩) 0 1, (by first | rfl | (simp only [wk, wt, wl, ↓reduceIte, Nat.reduceEqDiff, Nat.reduceAdd, wz]; done) | (simp only [wk, wt, wl, ↓reduceIte, Nat.reduceEqDiff, Nat.reduceAdd, wz]; rfl)), by omega, V4, O4, (fun z e => by
      have e' : h2.size = z := by cases e; rfl
      omega), (fun e => by simp [piecesL] at e), fun _ => ro4⟩ ?_
  clear V4 O4 O3 W1 W2 K4 N4 r2
  rintro tm hh ⟨K, hsz, t2, t3, t5, t13, W1, W2, i, pv, t14, hi, VQ, O, hbk, hpv, hro⟩
  obtain ⟨_, _, p2, _⟩ := grid_load W1
  obtain ⟨_, _, r2, _⟩ := grid_load W2
  have H' := Ch.wf K
  simp only [wk, wt, wl, ↓reduceIte, Nat.reduceEqDiff, Nat.reduceAdd, wz, t2, t3, t5, t13, t14]
  refine condK_dec (fun hd => ?_) (fun hd => ?_)
  · have hi1 : i < b.l.length := by omega
    obtain ⟨x, hx⟩ : ∃ x, a.l[i]? = some x := ⟨_, List.getElem?_eq_getElem (by omega)⟩
    obtain ⟨y, hy⟩ : ∃ y, b.l[i]? = some y := ⟨_, List.getElem?_eq_getElem hi1⟩
    obtain ⟨tx, X, LX, IX, _⟩ := (A.keeps K).at hx
    obtain ⟨ty, Y, LY, IY, ty0, _⟩ := (B.keeps K).at hy
    have wi : IntKind.i64.wrap ((i : Int) + 1) = ((i + 1 : Nat) : Int) := by rw [IntWalk.i64_in _ (by omega)]; omega
    simp only [wk, wt, wl, ↓reduceIte, Nat.reduceEqDiff, Nat.reduceAdd, wz, t2, t3, t5, t13, t14, pt]
    refine adraw_order [(0, false), (1, false), (2, false), (3, false), (4, false), (5, false), (6, false), (7, false), (8, false), (9, false), (10, true)] mixed (by kernel_rfl) (by kernel_rfl) (by kernel_rfl) (by with_reducible repeat (first | exact PF_retK | refine PF_thenK ?_ | refine PF_blockK ?_)) ?_
    simp only [wk, wt, wl, ↓reduceIte, Nat.reduceEqDiff, Nat.reduceAdd, wz, dK_t, t2, t3, t5, t13, t14, pt, p2, r2, IX, LX, IY, LY]
    refine (sameC_ok X Y (hT x (List.mem_of_getElem? hx))).use ?_
    rintro _ h5 ⟨rfl, K5⟩
    have K05 := K.trans K5
    have H5 := Ch.wf K5
    have Z1 := Keeps.var H' K5 W1
    have Z2 := Keeps.var H' K5 W2
    have ZQ := Keeps.var H' K5 VQ
    have O5 := O.keeps K5
    have hsz5 := Ch.le K5
    have hro5 : (piecesL a.l b.l i).length = 0 → ∀ z, blkOf pv = some z → ∃ k, h5.get z = some k ∧ k.ro = false := fun e z e2 => by
      obtain ⟨k, g1, g2⟩ := hro e z e2
      exact ⟨k, (K5.at (Rd.blk_lt O.1 e2).1).trans g1, g2⟩
    by_cases cs : x = y
    · have d1 := decide_eq_true cs
      have hc : chgB a.l b.l i = false := by unfold chgB; rw [hx, hy, cs]; simp
      have hpl : piecesL a.l b.l (i + 1) = piecesL a.l b.l i := by rw [piecesL, hc]; rfl
      simp only [wk, wt, wl, ↓reduceIte, Nat.reduceEqDiff, Nat.reduceAdd, wz, dK_t, t2, t3, t5, t13, t14, pt, d1, wi, intOf_int]
      first
        | exact ⟨⟨K05, by omega, Z1, Z2, i + 1, pv, rfl, by omega, ZQ, by rw [hpl]; exact O5, hbk, by rw [hpl]; exact hpv, by rw [hpl]; exact hro5⟩, by omega⟩
        | exact ⟨K5.reads H', ⟨K05, by omega, Z1, Z2, i + 1, pv, rfl, by omega, ZQ, by rw [hpl]; exact O5, hbk, by rw [hpl]; exact hpv, by rw [hpl]; exact hro5⟩, by omega⟩
    · have d1 := decide_eq_false cs
      have hc : chgB a.l b.l i = true := by unfold chgB; rw [hx, hy]; simp [cs]
      have hpl : piecesL a.l b.l (i + 1) = pieceS (piecesL a.l b.l i) (pieceF b.l i) i := by rw [piecesL, hc]; rfl
      have hbare : bareB b.l i = decide (y.tx = []) := by unfold bareB; rw [hy]; rfl
      have hplen := pieces_len (o := a.l) (n := b.l) i
      obtain ⟨_, _, r2', _⟩ := grid_load Z2
      obtain ⟨ty', Y', _, IY', ty0', _⟩ := (B.keeps K05).at hy
      have ty00 : aload prog h5 43 ⟨(eltA vb 3 i).block, (eltA vb 3 i).off + 0, none⟩ = some ty' := by rw [eltA_eta]; exact ty0'
      have LY' := Y'.len underlying43
      have LQ : aload prog h5 76 ⟨h.size + 3, 0, none⟩ = some pv := ZQ.load1 underlying76 rfl (i := 0)
      have LP := RS.len O5.rs underlying76
      have wn : IntKind.i64.wrap (((piecesL a.l b.l i).length : Int) - 1) = ((piecesL a.l b.l i).length : Int) - 1 := IntWalk.i64_in _ (by omega)
      by_cases ce : y.tx = []
      · have d2 : decide ((y.tx.length : Int) = 0) = true := decide_eq_true (by rw [ce]; rfl)
        have hb1 : bareB b.l i = true := by rw [hbare, decide_eq_true ce]
        have hF : pieceF b.l i = (i : Int) - 1 := by unfold pieceF; rw [if_pos hb1]
        have h1i := h0 i hb1
        have wf : IntKind.i64.wrap ((i : Int) - 1) = (i : Int) - 1 := IntWalk.i64_in _ (by omega)
        rw [hF] at hpl
        simp only [wk, wt, wl, ↓reduceIte, Nat.reduceEqDiff, Nat.reduceAdd, wz, dK_t, t2, t3, t5, t13, t14, pt, d1]
        try refine ⟨K5.reads H', ?_⟩
        simp only [wk, wt, wl, ↓reduceIte, Nat.reduceEqDiff, Nat.reduceAdd, wz, dK_t, t2, t3, t5, t13, t14, pt, r2', IY', ty00, LY', d2, wf, nilV_ptr, LQ, LP, wn]
        have hstep : ∀ (tv : Value) (h' : Heap), Keeps h5 h' ∨ True → True := fun _ _ _ => trivial
        cases hlast : (piecesL a.l b.l i).getLast? with
        | none =>
          have hnil := List.getLast?_eq_none_iff.1 hlast
          have d3 : decide (0 ≤ ((piecesL a.l b.l i).length : Int) - 1) = false := decide_eq_false (by rw [hnil]; decide)
          have hnew : pieceS (piecesL a.l b.l i) ((i : Int) - 1) i = piecesL a.l b.l i ++ [(((i : Int) - 1), (i : Int) + 1)] := by unfold pieceS; rw [hlast]
          rw [hnew] at hpl
          simp only [wk, wt, wl, ↓reduceIte, Nat.reduceEqDiff, Nat.reduceAdd, wz, t2, t3, t5, t13, t14, pt, nilV_ptr, LQ, d3]
          have bp : abuild prog 57 #[(0, .int .i64 ((i : Int) - 1)), (1, .int .i64 ((i + 1 : Nat) : Int))] = some (.agg #[.int .i64 ((i : Int) - 1), .int .i64 ((i + 1 : Nat) : Int)]) := by simp [abuild, wt, aplaces, Instr.fill, Value.cells]
          have bsp : abuildSlice prog h5 76 1 #[(0, .agg #[.int .i64 ((i : Int) - 1), .int .i64 ((i + 1 : Nat) : Int)])] = some (.slice (some ⟨h5.size, 0, none⟩) 1 2, h5.new 57 (cP (((i : Int) - 1), ((i + 1 : Nat) : Int)))) :=
            bsP
          simp only [wk, wt, wl, ↓reduceIte, Nat.reduceEqDiff, Nat.reduceAdd, wz, wi, bp, bsp]
          obtain ⟨v6, h6, e6, O6, C6, R6, ev6⟩ := O5.append1 (P := prog) H5 (by have := Ch.le K05; omega) underlying76 elem57 fits57 (by decide) (by decide) (((i : Int) - 1), ((i + 1 : Nat) : Int)) rfl (by omega)
          rw [e6]; clear e6
          have K6 := K05.step C6 fun z e => e.2
          have Y1 := Ch.var H5 C6 Z1 (fun e => by have := (hbk _ e.1).1; omega)
          have Y2 := Ch.var H5 C6 Z2 (fun e => by have := (hbk _ e.1).1; omega)
          have YQ := Ch.var H5 C6 ZQ (fun e => (hbk _ e.1).2 rfl)
          obtain ⟨h7, s7, V7, C7, z7⟩ := YQ.store1 (P := prog) (t := 76) (v := v6) (i := 0) (Ch.wf C6) asz76 (by simp) (by rw [ev6]; rfl)
          simp only [List.set_cons_zero] at V7
          have hbk6 : ∀ z, blkOf v6 = some z → h5.size + 1 ≤ z := fun z e => by rw [ev6] at e; cases e; exact Nat.le_refl _
          have K7 := K6.step C7 fun z e => by omega
          have X1 := Ch.var (Ch.wf C6) C7 Y1 (by omega)
          have X2 := Ch.var (Ch.wf C6) C7 Y2 (by omega)
          have O7 := Ch.own C7 O6 fun z e e2 => by have := hbk6 z e; omega
          have hle6 := Ch.le C6
          simp only [wk, wt, wl, ↓reduceIte, Nat.reduceEqDiff, Nat.reduceAdd, wz, t2, t3, t5, t13, t14, pt, nilV_ptr, s7, wi, intOf_int]
          have e1 : (i : Int) + 1 = ((i + 1 : Nat) : Int) := by omega
          refine ⟨⟨K7, by omega, X1, X2, i + 1, v6, rfl, by omega, V7, ?_, fun z e => by have := hbk6 z e; omega, fun _ => ⟨⟨h5.size + 1, 0, none⟩, ?_⟩, fun e => by rw [hpl, List.length_append] at e; simp at e⟩, by omega⟩
          · rw [hpl, e1]; exact O7
          · rw [hpl, List.length_append]; exact ev6
        | some p =>
          obtain ⟨T, hT2⟩ := last_split hlast
          have hlen1 : (piecesL a.l b.l i).length = T.length + 1 := by rw [hT2, List.length_append]; rfl
          have hpos : 0 < (piecesL a.l b.l i).length := by omega
          have d3 : decide (0 ≤ ((piecesL a.l b.l i).length : Int) - 1) = true := decide_eq_true (by omega)
          have hget : (piecesL a.l b.l i)[(piecesL a.l b.l i).length - 1]? = some p := by rw [hlen1, Nat.add_sub_cancel, hT2, List.getElem?_append_right (Nat.le_refl _), Nat.sub_self]; rfl
          have IR := Rd.index O5.rs underlying76 asz57 (q := .i64) (i := ((piecesL a.l b.l i).length : Int) - 1) (by omega) (by omega)
          rw [show (((piecesL a.l b.l i).length : Int) - 1).toNat = (piecesL a.l b.l i).length - 1 from by omega] at IR
          have LR := O5.rs.fld cP_len (t := 3) underlying3 rfl hget (j := 1) (by decide)
          have IR2 : aindexAddr prog 57 (.pointer (some (eltA pv 2 ((piecesL a.l b.l i).length - 1)))) (.int .i64 1) = some (.pointer (some ⟨(eltA pv 2 ((piecesL a.l b.l i).length - 1)).block, (eltA pv 2 ((piecesL a.l b.l i).length - 1)).off + 1, none⟩)) := arr_index underlying57 asz3 (by omega) (by omega)
          have LR' : aload prog h5 3 ⟨(eltA pv 2 ((piecesL a.l b.l i).length - 1)).block, (eltA pv 2 ((piecesL a.l b.l i).length - 1)).off + 1, none⟩ = some (.int .i64 p.2) := LR
          by_cases cf : ((i : Int) - 1) ≤ p.2
          · have d4 : decide (((i : Int) - 1) ≤ p.2) = true := decide_eq_true cf
            have hnew : pieceS (piecesL a.l b.l i) ((i : Int) - 1) i = (piecesL a.l b.l i).set ((piecesL a.l b.l i).length - 1) (p.1, (i : Int) + 1) := by unfold pieceS; rw [hlast]; simp only; rw [if_pos cf]
            rw [hnew] at hpl
            obtain ⟨xa, hxa⟩ := hpv hpos
            have OW : Own prog h.size h5 2 (.slice (some xa) (piecesL a.l b.l i).length 0) (piecesL a.l b.l i).length ((piecesL a.l b.l i).flatMap cP) := by rw [← hxa]; exact O5
            obtain ⟨h6, s6, O6, C6, z6, _⟩ := OW.store H5 (t := 3) (w := .int .i64 ((i + 1 : Nat) : Int)) (i := (piecesL a.l b.l i).length - 1) (j := 1) asz3 rfl (by omega) (by omega)
            rw [set_cP hget, ← hxa] at O6
            rw [← hxa] at s6
            have hxb : blkOf pv = some xa.block := by
              obtain ⟨bb, o, k, e, _⟩ := OW.third
              rw [hxa, e]; rfl
            have CF : Ch (FamV h5 pv) h5 h6 := C6.mono fun z f => ⟨_, hxb, f⟩
            have hnb : blkOf pv ≠ some (h.size + 3) := fun e => (hbk _ e).2 rfl
            have K6 := K05.step CF fun z F => fam_ge0 K05 (fun y e => by have := (hbk y e).1; omega) z F
            have Y1 := Ch.var H5 CF Z1 (Z1.notFam fun e => by have := (hbk _ e).1; omega)
            have Y2 := Ch.var H5 CF Z2 (Z2.notFam fun e => by have := (hbk _ e).1; omega)
            have YQ := Ch.var H5 CF ZQ (ZQ.notFam hnb)
            simp only [wk, wt, wl, ↓reduceIte, Nat.reduceEqDiff, Nat.reduceAdd, wz, t2, t3, t5, t13, t14, pt, nilV_ptr, LQ, d3, IR, IR2, LR', d4, wi, s6, intOf_int]
            refine ⟨⟨K6, by omega, Y1, Y2, i + 1, pv, rfl, by omega, YQ, ?_, hbk, fun _ => ⟨xa, by rw [hpl, List.length_set]; exact hxa⟩, fun e => by rw [hpl, List.length_set] at e; omega⟩, by omega⟩
            rw [hpl]
            unfold OS
            have e1 : (i : Int) + 1 = ((i + 1 : Nat) : Int) := by omega
            rw [List.length_set, e1]
            exact O6
          · have d4 : decide (((i : Int) - 1) ≤ p.2) = false := decide_eq_false cf
            have hnew : pieceS (piecesL a.l b.l i) ((i : Int) - 1) i = piecesL a.l b.l i ++ [(((i : Int) - 1), (i : Int) + 1)] := by unfold pieceS; rw [hlast]; simp only; rw [if_neg cf]
            rw [hnew] at hpl
            simp only [wk, wt, wl, ↓reduceIte, Nat.reduceEqDiff, Nat.reduceAdd, wz, t2, t3, t5, t13, t14, pt, nilV_ptr, LQ, d3, IR, IR2, LR', d4]
            have bp : abuild prog 57 #[(0, .int .i64 ((i : Int) - 1)), (1, .int .i64 ((i + 1 : Nat) : Int))] = some (.agg #[.int .i64 ((i : Int) - 1), .int .i64 ((i + 1 : Nat) : Int)]) := by simp [abuild, wt, aplaces, Instr.fill, Value.cells]
            have bsp : abuildSlice prog h5 76 1 #[(0, .agg #[.int .i64 ((i : Int) - 1), .int .i64 ((i + 1 : Nat) : Int)])] = some (.slice (some ⟨h5.size, 0, none⟩) 1 2, h5.new 57 (cP (((i : Int) - 1), ((i + 1 : Nat) : Int)))) :=
              bsP
            simp only [wk, wt, wl, ↓reduceIte, Nat.reduceEqDiff, Nat.reduceAdd, wz, wi, bp, bsp]
            obtain ⟨v6, h6, e6, O6, C6, R6, ev6⟩ := O5.append1 (P := prog) H5 (by have := Ch.le K05; omega) underlying76 elem57 fits57 (by decide) (by decide) (((i : Int) - 1), ((i + 1 : Nat) : Int)) rfl (by omega)
            rw [e6]; clear e6
            have K6 := K05.step C6 fun z e => e.2
            have Y1 := Ch.var H5 C6 Z1 (fun e => by have := (hbk _ e.1).1; omega)
            have Y2 := Ch.var H5 C6 Z2 (fun e => by have := (hbk _ e.1).1; omega)
            have YQ := Ch.var H5 C6 ZQ (fun e => (hbk _ e.1).2 rfl)
            obtain ⟨h7, s7, V7, C7, z7⟩ := YQ.store1 (P := prog) (t := 76) (v := v6) (i := 0) (Ch.wf C6) asz76 (by simp) (by rw [ev6]; rfl)
            simp only [List.set_cons_zero] at V7
            have hbk6 : ∀ z, blkOf v6 = some z → h5.size + 1 ≤ z := fun z e => by rw [ev6] at e; cases e; exact Nat.le_refl _
            have K7 := K6.step C7 fun z e => by omega
            have X1 := Ch.var (Ch.wf C6) C7 Y1 (by omega)
            have X2 := Ch.var (Ch.wf C6) C7 Y2 (by omega)
            have O7 := Ch.own C7 O6 fun z e e2 => by have := hbk6 z e; omega
            have hle6 := Ch.le C6
            simp only [wk, wt, wl, ↓reduceIte, Nat.reduceEqDiff, Nat.reduceAdd, wz, t2, t3, t5, t13, t14, pt, nilV_ptr, s7, wi, intOf_int]
            have e1 : (i : Int) + 1 = ((i + 1 : Nat) : Int) := by omega
            refine ⟨⟨K7, by omega, X1, X2, i + 1, v6, rfl, by omega, V7, ?_, fun z e => by have := hbk6 z e; omega, fun _ => ⟨⟨h5.size + 1, 0, none⟩, ?_⟩, fun e => by rw [hpl, List.length_append] at e; simp at e⟩, by omega⟩
            · rw [hpl, e1]; exact O7
            · rw [hpl, List.length_append]; exact ev6
      · have d2 : decide ((y.tx.length : Int) = 0) = false := decide_eq_false (fun e => ce (List.eq_nil_of_length_eq_zero (by omega)))
        have hb1 : ¬ bareB b.l i = true := by rw [hbare, decide_eq_false ce]; simp
        have hF : pieceF b.l i = (i : Int) := by unfold pieceF; rw [if_neg hb1]
        rw [hF] at hpl
        simp only [wk, wt, wl, ↓reduceIte, Nat.reduceEqDiff, Nat.reduceAdd, wz, dK_t, t2, t3, t5, t13, t14, pt, d1]
        try refine ⟨K5.reads H', ?_⟩
        simp only [wk, wt, wl, ↓reduceIte, Nat.reduceEqDiff, Nat.reduceAdd, wz, dK_t, t2, t3, t5, t13, t14, pt, r2', IY', ty00, LY', d2, nilV_ptr, LQ, LP, wn]
        have hstep : ∀ (tv : Value) (h' : Heap), Keeps h5 h' ∨ True → True := fun _ _ _ => trivial
        cases hlast : (piecesL a.l b.l i).getLast? with
        | none =>
          have hnil := List.getLast?_eq_none_iff.1 hlast
          have d3 : decide (0 ≤ ((piecesL a.l b.l i).length : Int) - 1) = false := decide_eq_false (by rw [hnil]; decide)
          have hnew : pieceS (piecesL a.l b.l i) (i : Int) i = piecesL a.l b.l i ++ [((i : Int), (i : Int) + 1)] := by unfold pieceS; rw [hlast]
          rw [hnew] at hpl
          simp only [wk, wt, wl, ↓reduceIte, Nat.reduceEqDiff, Nat.reduceAdd, wz, t2, t3, t5, t13, t14, pt, nilV_ptr, LQ, d3]
          have bp : abuild prog 57 #[(0, .int .i64 (i : Int)), (1, .int .i64 ((i + 1 : Nat) : Int))] = some (.agg #[.int .i64 (i : Int), .int .i64 ((i + 1 : Nat) : Int)]) := by simp [abuild, wt, aplaces, Instr.fill, Value.cells]
          have bsp : abuildSlice prog h5 76 1 #[(0, .agg #[.int .i64 (i : Int), .int .i64 ((i + 1 : Nat) : Int)])] = some (.slice (some ⟨h5.size, 0, none⟩) 1 2, h5.new 57 (cP ((i : Int), ((i + 1 : Nat) : Int)))) :=
            bsP
          simp only [wk, wt, wl, ↓reduceIte, Nat.reduceEqDiff, Nat.reduceAdd, wz, wi, bp, bsp]
          obtain ⟨v6, h6, e6, O6, C6, R6, ev6⟩ := O5.append1 (P := prog) H5 (by have := Ch.le K05; omega) underlying76 elem57 fits57 (by decide) (by decide) ((i : Int), ((i + 1 : Nat) : Int)) rfl (by omega)
          rw [e6]; clear e6
          have K6 := K05.step C6 fun z e => e.2
          have Y1 := Ch.var H5 C6 Z1 (fun e => by have := (hbk _ e.1).1; omega)
          have Y2 := Ch.var H5 C6 Z2 (fun e => by have := (hbk _ e.1).1; omega)
          have YQ := Ch.var H5 C6 ZQ (fun e => (hbk _ e.1).2 rfl)
          obtain ⟨h7, s7, V7, C7, z7⟩ := YQ.store1 (P := prog) (t := 76) (v := v6) (i := 0) (Ch.wf C6) asz76 (by simp) (by rw [ev6]; rfl)
          simp only [List.set_cons_zero] at V7
          have hbk6 : ∀ z, blkOf v6 = some z → h5.size + 1 ≤ z := fun z e => by rw [ev6] at e; cases e; exact Nat.le_refl _
          have K7 := K6.step C7 fun z e => by omega
          have X1 := Ch.var (Ch.wf C6) C7 Y1 (by omega)
          have X2 := Ch.var (Ch.wf C6) C7 Y2 (by omega)
          have O7 := Ch.own C7 O6 fun z e e2 => by have := hbk6 z e; omega
          have hle6 := Ch.le C6
          simp only [wk, wt, wl, ↓reduceIte, Nat.reduceEqDiff, Nat.reduceAdd, wz, t2, t3, t5, t13, t14, pt, nilV_ptr, s7, wi, intOf_int]
          have e1 : (i : Int) + 1 = ((i + 1 : Nat) : Int) := by omega
          refine ⟨⟨K7, by omega, X1, X2, i + 1, v6, rfl, by omega, V7, ?_, fun z e => by have := hbk6 z e; omega, fun _ => ⟨⟨h5.size + 1, 0, none⟩, ?_⟩, fun e => by rw [hpl, List.length_append] at e; simp at e⟩, by omega⟩
          · rw [hpl, e1]; exact O7
          · rw [hpl, List.length_append]; exact ev6
        | some p =>
          obtain ⟨T, hT2⟩ := last_split hlast
          have hlen1 : (piecesL a.l b.l i).length = T.length + 1 := by rw [hT2, List.length_append]; rfl
          have hpos : 0 < (piecesL a.l b.l i).length := by omega
          have d3 : decide (0 ≤ ((piecesL a.l b.l i).length : Int) - 1) = true := decide_eq_true (by omega)
          have hget : (piecesL a.l b.l i)[(piecesL a.l b.l i).length - 1]? = some p := by rw [hlen1, Nat.add_sub_cancel, hT2, List.getElem?_append_right (Nat.le_refl _), Nat.sub_self]; rfl
          have IR := Rd.index O5.rs underlying76 asz57 (q := .i64) (i := ((piecesL a.l b.l i).length : Int) - 1) (by omega) (by omega)
          rw [show (((piecesL a.l b.l i).length : Int) - 1).toNat = (piecesL a.l b.l i).length - 1 from by omega] at IR
          have LR := O5.rs.fld cP_len (t := 3) underlying3 rfl hget (j := 1) (by decide)
          have IR2 : aindexAddr prog 57 (.pointer (some (eltA pv 2 ((piecesL a.l b.l i).length - 1)))) (.int .i64 1) = some (.pointer (some ⟨(eltA pv 2 ((piecesL a.l b.l i).length - 1)).block, (eltA pv 2 ((piecesL a.l b.l i).length - 1)).off + 1, none⟩)) := arr_index underlying57 asz3 (by omega) (by omega)
          have LR' : aload prog h5 3 ⟨(eltA pv 2 ((piecesL a.l b.l i).length - 1)).block, (eltA pv 2 ((piecesL a.l b.l i).length - 1)).off + 1, none⟩ = some (.int .i64 p.2) := LR
          by_cases cf : (i : Int) ≤ p.2
          · have d4 : decide ((i : Int) ≤ p.2) = true := decide_eq_true cf
            have hnew : pieceS (piecesL a.l b.l i) (i : Int) i = (piecesL a.l b.l i).set ((piecesL a.l b.l i).length - 1) (p.1, (i : Int) + 1) := by unfold pieceS; rw [hlast]; simp only; rw [if_pos cf]
            rw [hnew] at hpl
            obtain ⟨xa, hxa⟩ := hpv hpos
            have OW : Own prog h.size h5 2 (.slice (some xa) (piecesL a.l b.l i).length 0) (piecesL a.l b.l i).length ((piecesL a.l b.l i).flatMap cP) := by rw [← hxa]; exact O5
            obtain ⟨h6, s6, O6, C6, z6, _⟩ := OW.store H5 (t := 3) (w := .int .i64 ((i + 1 : Nat) : Int)) (i := (piecesL a.l b.l i).length - 1) (j := 1) asz3 rfl (by omega) (by omega)
            rw [set_cP hget, ← hxa] at O6
            rw [← hxa] at s6
            have hxb : blkOf pv = some xa.block := by
              obtain ⟨bb, o, k, e, _⟩ := OW.third
              rw [hxa, e]; rfl
            have CF : Ch (FamV h5 pv) h5 h6 := C6.mono fun z f => ⟨_, hxb, f⟩
            have hnb : blkOf pv ≠ some (h.size + 3) := fun e => (hbk _ e).2 rfl
            have K6 := K05.step CF fun z F => fam_ge0 K05 (fun y e => by have := (hbk y e).1; omega) z F
            have Y1 := Ch.var H5 CF Z1 (Z1.notFam fun e => by have := (hbk _ e).1; omega)
            have Y2 := Ch.var H5 CF Z2 (Z2.notFam fun e => by have := (hbk _ e).1; omega)
            have YQ := Ch.var H5 CF ZQ (ZQ.notFam hnb)
            simp only [wk, wt, wl, ↓reduceIte, Nat.reduceEqDiff, Nat.reduceAdd, wz, t2, t3, t5, t13, t14, pt, nilV_ptr, LQ, d3, IR, IR2, LR', d4, wi, s6, intOf_int]
            refine ⟨⟨K6, by omega, Y1, Y2, i + 1, pv, rfl, by omega, YQ, ?_, hbk, fun _ => ⟨xa, by rw [hpl, List.length_set]; exact hxa⟩, fun e => by rw [hpl, List.length_set] at e; omega⟩, by omega⟩
            rw [hpl]
            unfold OS
            have e1 : (i : Int) + 1 = ((i + 1 : Nat) : Int) := by omega
            rw [List.length_set, e1]
            exact O6
          · have d4 : decide ((i : Int) ≤ p.2) = false := decide_eq_false cf
            have hnew : pieceS (piecesL a.l b.l i) (i : Int) i = piecesL a.l b.l i ++ [((i : Int), (i : Int) + 1)] := by unfold pieceS; rw [hlast]; simp only; rw [if_neg cf]
            rw [hnew] at hpl
            simp only [wk, wt, wl, ↓reduceIte, Nat.reduceEqDiff, Nat.reduceAdd, wz, t2, t3, t5, t13, t14, pt, nilV_ptr, LQ, d3, IR, IR2, LR', d4]
            have bp : abuild prog 57 #[(0, .int .i64 (i : Int)), (1, .int .i64 ((i + 1 : Nat) : Int))] = some (.agg #[.int .i64 (i : Int), .int .i64 ((i + 1 : Nat) : Int)]) := by simp [abuild, wt, aplaces, Instr.fill, Value.cells]
            have bsp : abuildSlice prog h5 76 1 #[(0, .agg #[.int .i64 (i : Int), .int .i64 ((i + 1 : Nat) : Int)])] = some (.slice (some ⟨h5.size, 0, none⟩) 1 2, h5.new 57 (cP ((i : Int), ((i + 1 : Nat) : Int)))) :=
              bsP
            simp only [wk, wt, wl, ↓reduceIte, Nat.reduceEqDiff, Nat.reduceAdd, wz, wi, bp, bsp]
            obtain ⟨v6, h6, e6, O6, C6, R6, ev6⟩ := O5.append1 (P := prog) H5 (by have := Ch.le K05; omega) underlying76 elem57 fits57 (by decide) (by decide) ((i : Int), ((i + 1 : Nat) : Int)) rfl (by omega)
            rw [e6]; clear e6
            have K6 := K05.step C6 fun z e => e.2
            have Y1 := Ch.var H5 C6 Z1 (fun e => by have := (hbk _ e.1).1; omega)
            have Y2 := Ch.var H5 C6 Z2 (fun e => by have := (hbk _ e.1).1; omega)
            have YQ := Ch.var H5 C6 ZQ (fun e => (hbk _ e.1).2 rfl)
            obtain ⟨h7, s7, V7, C7, z7⟩ := YQ.store1 (P := prog) (t := 76) (v := v6) (i := 0) (Ch.wf C6) asz76 (by simp) (by rw [ev6]; rfl)
            simp only [List.set_cons_zero] at V7
            have hbk6 : ∀ z, blkOf v6 = some z → h5.size + 1 ≤ z := fun z e => by rw [ev6] at e; cases e; exact Nat.le_refl _
            have K7 := K6.step C7 fun z e => by omega
            have X1 := Ch.var (Ch.wf C6) C7 Y1 (by omega)
            have X2 := Ch.var (Ch.wf C6) C7 Y2 (by omega)
            have O7 := Ch.own C7 O6 fun z e e2 => by have := hbk6 z e; omega
            have hle6 := Ch.le C6
            simp only [wk, wt, wl, ↓reduceIte, Nat.reduceEqDiff, Nat.reduceAdd, wz, t2, t3, t5, t13, t14, pt, nilV_ptr, s7, wi, intOf_int]
            have e1 : (i : Int) + 1 = ((i + 1 : Nat) : Int) := by omega
            refine ⟨⟨K7, by omega, X1, X2, i + 1, v6, rfl, by omega, V7, ?_, fun z e => by have := hbk6 z e; omega, fun _ => ⟨⟨h5.size + 1, 0, none⟩, ?_⟩, fun e => by rw [hpl, List.length_append] at e; simp at e⟩, by omega⟩
            · rw [hpl, e1]; exact O7
            · rw [hpl, List.length_append]; exact ev6
  · obtain rfl : i = b.l.length := by omega
    have LQ : aload prog hh 76 ⟨h.size + 3, 0, none⟩ = some pv := VQ.load1 underlying76 rfl (i := 0)
    have hplen := pieces_len (o := a.l) (n := b.l) b.l.length
    have OO : OP hh pv (piecesL a.l b.l b.l.length) := by
      refine ⟨O.1, fun z e => ?_⟩
      by_cases hp : 0 < (piecesL a.l b.l b.l.length).length
      · obtain ⟨y, rfl⟩ := hpv hp
        obtain ⟨bb, o, k, rfl, _, g1, g2, _⟩ := Own.third O
        cases e
        exact ⟨k, g1, g2⟩
      · exact hro (by omega) z e
    simp only [wk, wt, wl, ↓reduceIte, Nat.reduceEqDiff, Nat.reduceAdd, wz, t2, t3, t5, pt, nilV_ptr, LQ]
    refine (reverse_ok OO (by omega)).use ?_
    rintro _ h6 ⟨⟨l', O6, hp6⟩, C6⟩
    have hnb : blkOf pv ≠ some (h.size + 3) := fun e => (hbk _ e).2 rfl
    have K6 := K.step C6 fun z F => fam_ge0 K (fun y e => by have := (hbk y e).1; omega) z F
    have V6 := Ch.var H' C6 VQ (VQ.notFam hnb)
    simp only [wk, wt, wl, ↓reduceIte, Nat.reduceEqDiff, Nat.reduceAdd, wz, t5, pt]
    have F6 : Fam h6 (fun n => h.size ≤ n ∧ n < h6.size) pv := Fam.freshK K6 fun z e => by have := (hbk z e).1; omega
    refine ⟨_, pv, l', rfl, by omega, V6.lt (Ch.wf K6), ⟨V6, O6, fun z k e g => ?_, fun e => e.2.2 rfl⟩, hp6, K6⟩
    have f1 := F6 z k e g
    refine ⟨f1.1, f1.2, fun e2 => ?_⟩
    obtain ⟨kq, g1, g2, g3, g4, g5, g6⟩ := V6
    exact g6 z k (fun e3 => hnb (by rw [← e3]; exact e)) g e2
end Go.Proofs.YthmpaddhmgnkbaaDoor.Am
end
section
/- A terminal in plain terms: going to a place, typing runes that have room; no program in sight. -/
set_option linter.unusedSimpArgs false
set_option linter.unusedVariables false
set_option maxHeartbeats 4000000
namespace Go.Proofs.YthmpaddhmgnkbaaDoor.Am
open Go Go.RowKit Go.Proofs.Tryd
/-- A number's digits. -/
def digF : Nat → Int → List Int
  | 0, n => [48 + n]
  | k + 1, n => if n < 10 then [48 + n] else digF k (n / 10) ++ [48 + n % 10]
theorem digF_numsGo : ∀ (k : Nat) (n : Int) (l rest : List Int), 0 ≤ n → n ≤ 9999 → n < 10 ^ (k + 1) → numsGo l 0 (digF k n ++ rest) = numsGo l n rest
  | 0, n, l, rest, h0, h1, h2 => by
    have h2 : n < 10 := by simpa using h2
    have M := imin_spec (0 * 10 + (48 + n - 48)) 9999
    simp only [digF, List.cons_append, List.nil_append, numsGo]
    rw [if_neg (by omega), if_pos (by omega)]
    congr 1; omega
  | k + 1, n, l, rest, h0, h1, h2 => by
    unfold digF
    by_cases h : n < 10
    · have M := imin_spec (0 * 10 + (48 + n - 48)) 9999
      rw [if_pos h]
      simp only [List.cons_append, List.nil_append, numsGo]
      rw [if_neg (by omega), if_pos (by omega)]
      congr 1; omega
    · rw [if_neg h, List.append_assoc, digF_numsGo k (n / 10) l _ (by omega) (by omega) (by rw [Int.pow_succ] at h2; omega)]
      have M := imin_spec (n / 10 * 10 + (48 + n % 10 - 48)) 9999
      simp only [List.cons_append, List.nil_append, numsGo]
      rw [if_neg (by omega), if_pos (by omega)]
      congr 1; omega
theorem digF_len : ∀ (k : Nat) (n : Int), (digF k n).length ≤ k + 1 ∧ 1 ≤ (digF k n).length
  | 0, n => by simp [digF]
  | k + 1, n => by
    unfold digF
    split
    · simp
    · have := digF_len k (n / 10)
      simp; omega
theorem digF_bd : ∀ (k : Nat) (n : Int), 0 ≤ n → n < 10 ^ (k + 1) → ∀ x, x ∈ digF k n → 48 ≤ x ∧ x ≤ 57
  | 0, n, h0, h1, x, hx => by
    have h1 : n < 10 := by simpa using h1
    simp [digF] at hx; omega
  | k + 1, n, h0, h1, x, hx => by
    unfold digF at hx
    split at hx
    · simp at hx; omega
    · rcases List.mem_append.1 hx with hx | hx
      · exact digF_bd k (n / 10) (by omega) (by rw [Int.pow_succ] at h1; omega) x hx
      · simp at hx; omega
theorem seqBytes : ∀ (bs : List Int) (X : TX), X.st = 2 → (∀ x, x ∈ bs → 32 ≤ x ∧ x ≤ 63) → X.seq.length + bs.length ≤ 32 → writeX X bs = { X with seq := X.seq ++ bs }
  | [], X, h2, hb, hl => by simp [writeX]
  | b :: bs, X, h2, hb, hl => by
    have h1 := hb b List.mem_cons_self
    simp only [List.length_cons] at hl
    have e : stepX X b = { X with seq := X.seq ++ [b] } := by
      unfold stepX; rw [if_neg (by omega), if_pos h2, if_pos h1, if_pos (by omega)]
    show writeX (stepX X b) bs = _
    rw [e, seqBytes bs { X with seq := X.seq ++ [b] } h2 (fun x hx => hb x (List.mem_cons_of_mem _ hx)) (by simp; omega)]
    simp
def atL (a b : Int) : List Int := [27, 91] ++ (digF 3 a ++ ([59] ++ (digF 3 b ++ [72])))
theorem gotoX {X : TX} {a b : Int} (h0 : X.st = 0) (hh : X.held = []) (ha : 1 ≤ a ∧ a ≤ 9999) (hb : 1 ≤ b ∧ b ≤ 9999) : ∃ s, writeX X (atL a b) = { moveX X (a - 1) (b - 1) with last := none, seq := s } := by
  obtain ⟨rows, cols, cells, row, col, attr, hid, last, st, seq, held⟩ := X
  simp only at h0 hh
  subst h0; subst hh
  have l1 := digF_len 3 a
  have l2 := digF_len 3 b
  have d1 := digF_bd 3 a (by omega) (by omega)
  have d2 := digF_bd 3 b (by omega) (by omega)
  unfold atL
  rw [writeX_app]
  have e1 : writeX ⟨rows, cols, cells, row, col, attr, hid, last, 0, seq, []⟩ [27, 91] = ⟨rows, cols, cells, row, col, attr, hid, none, 2, [], []⟩ := rfl
  rw [e1, show digF 3 a ++ ([59] ++ (digF 3 b ++ [72])) = (digF 3 a ++ ([59] ++ digF 3 b)) ++ [72] by simp, writeX_app, seqBytes (digF 3 a ++ ([59] ++ digF 3 b)) ⟨rows, cols, cells, row, col, attr, hid, none, 2, [], []⟩ rfl (fun x hx => by
    rcases List.mem_append.1 hx with hx | hx
    · have := d1 x hx; omega
    · rcases List.mem_append.1 hx with hx | hx
      · simp at hx; omega
      · have := d2 x hx; omega) (by simp; omega)]
  simp only [List.nil_append]
  generalize hs : digF 3 a ++ ([59] ++ digF 3 b) = s
  have hask : asksB s = false := by
    rw [← hs]
    cases hd : digF 3 a with
    | nil => rw [hd] at l1; simp at l1
    | cons y t =>
      have := d1 y (by rw [hd]; simp)
      simp [asksB]; omega
  have hn : numsGo [] 0 s = some [a, b] := by
    rw [← hs, digF_numsGo 3 a [] _ (by omega) (by omega) (by omega)]
    have e : numsGo [] a ([59] ++ digF 3 b) = numsGo [a] 0 (digF 3 b ++ []) := by simp [numsGo]
    rw [e, digF_numsGo 3 b [a] [] (by omega) (by omega) (by omega)]
    simp [numsGo]
  refine ⟨s, ?_⟩
  have e2 : writeX ⟨rows, cols, cells, row, col, attr, hid, none, 2, s, []⟩ [72] = { seqX ⟨rows, cols, cells, row, col, attr, hid, none, 2, s, []⟩ s 72 with st := 0 } := rfl
  rw [e2]
  have M1 := imax_spec a 1
  have M2 := imax_spec b 1
  have e3 : seqX ⟨rows, cols, cells, row, col, attr, hid, none, 2, s, []⟩ s 72 = moveX ⟨rows, cols, cells, row, col, attr, hid, none, 2, s, []⟩ (a - 1) (b - 1) := by
    unfold seqX
    rw [hask]
    simp only [Bool.false_eq_true, if_false, hn]
    simp [doX]
    rw [show imax a 1 = a by omega, show imax b 1 = b by omega]
  rw [e3]
  rfl
/-- Bytes that are typed come to the runes that they are. -/
theorem writeX_fed : ∀ (bs : List Int) (X : TX) (l s : List Int), X.st = 0 → (∀ b, b ∈ bs → 32 ≤ b ∧ b ≠ 127) → nextZ X.held = none → Fed (X.held ++ bs) l s → writeX X bs = { l.foldl putX X with held := s }
  | [], X, l, s, h0, hb, hn, F => by
    rw [List.append_nil] at F
    obtain ⟨rfl, rfl⟩ := Fed.det F (.done hn)
    rfl
  | b :: bs, X, l, s, h0, hb, hn, F => by
    have h1 := hb b List.mem_cons_self
    have e : stepX X b = feedX X b := by unfold stepX; rw [if_neg (by omega), if_neg (by omega), if_pos h1]
    show writeX (stepX X b) bs = _
    rw [e]
    have F1 := fedN_fed (X.held.length + 1) (X.held ++ [b]) (by simp)
    have hfe : feedX X b = { (fedN (X.held.length + 1) (X.held ++ [b])).1.foldl putX X with held := (fedN (X.held.length + 1) (X.held ++ [b])).2 } := rfl
    rw [hfe]
    generalize (fedN (X.held.length + 1) (X.held ++ [b])).1 = l1 at *
    generalize (fedN (X.held.length + 1) (X.held ++ [b])).2 = s1 at *
    obtain ⟨l2, s2, F2⟩ : ∃ l2 s2, Fed (s1 ++ bs) l2 s2 := ⟨_, _, fedN_fed (s1 ++ bs).length (s1 ++ bs) (Nat.le_refl _)⟩
    have F3 := Fed.app (b := bs) F1 F2
    rw [List.append_assoc] at F3
    obtain ⟨e1, e2⟩ := Fed.det F F3
    subst e1; subst e2
    rw [writeX_fed bs { l1.foldl putX X with held := s1 } l2 s (foldl_st.trans h0) (fun y hy => hb y (List.mem_cons_of_mem _ hy)) F1.bound.2.2.2 F2, foldl_held, List.foldl_append]
theorem show_valid {r : Int} (h : showL r = [r]) : validB r = true ∧ (32 ≤ r ∨ r < 0) ∧ r ≠ 127 := by
  unfold showL at h
  split at h
  · split at h <;> simp at h
  · rename_i hc
    have hc : ctlB r = false := by simpa using hc
    simp [ctlB] at hc
    split at h
    · rename_i hv
      have : r = 65533 := by simpa using h.symm
      subst this
      exact ⟨rfl, by omega, by omega⟩
    · rename_i hv
      exact ⟨by cases hb : validB r with
        | true => rfl
        | false => exact absurd (.inr hb) hv, by omega, by omega⟩
theorem encL_high {l : List Int} (h : ∀ r, r ∈ l → showL r = [r]) : ∀ b, b ∈ encL l → 32 ≤ b ∧ b ≠ 127 := fun b hb => by
  obtain ⟨r, hr, hb⟩ := List.mem_flatMap.1 hb
  obtain ⟨h1, h2, h3⟩ := show_valid (h r hr)
  have hv : (0 ≤ r ∧ r < 55296) ∨ (57343 < r ∧ r ≤ 1114111) := by simpa [validB] using h1
  unfold encR fixR at hb
  rw [if_pos h1] at hb
  unfold encV at hb
  split at hb
  · simp at hb; omega
  · split at hb
    · simp at hb; omega
    · split at hb
      · simp at hb; omega
      · simp at hb; omega
theorem fix_map : ∀ {l : List Int}, (∀ r, r ∈ l → showL r = [r]) → l.map fixR = l
  | [], _ => rfl
  | r :: l, h => by
    rw [List.map_cons, fix_map fun y hy => h y (List.mem_cons_of_mem _ hy)]
    congr 1
    unfold fixR; rw [if_pos (show_valid (h r List.mem_cons_self)).1]
/-- Runes that are typed. -/
theorem writeX_runes {X : TX} {l : List Int} (h0 : X.st = 0) (hh : X.held = []) (h : ∀ r, r ∈ l → showL r = [r]) : writeX X (encL l) = { l.foldl putX X with held := [] } := by
  refine writeX_fed _ X l [] h0 (encL_high h) (by rw [hh]; rfl) ?_
  rw [hh, List.nil_append]
  have F := Fed.enc (b := []) (l := []) (s := []) (.done rfl) l
  rwa [List.append_nil, List.append_nil, fix_map h] at F
end Go.Proofs.YthmpaddhmgnkbaaDoor.Am
end
section
/- Digits as text, by a walk; texts as bytes. -/
set_option linter.unusedSimpArgs false
set_option linter.unusedVariables false
set_option maxHeartbeats 4000000
set_option maxRecDepth 20000
namespace Go.Proofs.YthmpaddhmgnkbaaDoor.Am
open Go Go.RowKit Go.Proofs.Tryd
theorem strApp {a b : List Int} : strOfNums a ++ strOfNums b = strOfNums (a ++ b) := by
  apply ByteArray.ext
  rw [ByteArray.data_append]
  simp [strOfNums]
theorem strAdd {a b : List Int} (h : a.length + b.length ≤ 1000) : abin prog .add 9 (.string (strOfNums a)) (.string (strOfNums b)) = some (.string (strOfNums (a ++ b))) := by
  have h2 : (strOfNums a).size + (strOfNums b).size ≤ 9223372036854775807 := by rw [strOfNums_size, strOfNums_size]; omega
  simp [abin, astr, h2, strApp]
theorem bytesStr : ∀ {l : List Int}, (∀ x, x ∈ l → isB x) → bytesV (strOfNums l) = l.map (Value.int .u8)
  | [], _ => rfl
  | x :: l, h => by
    have ih := bytesStr (l := l) fun y hy => h y (List.mem_cons_of_mem _ hy)
    have hx := h x List.mem_cons_self
    simp only [isB] at hx
    unfold bytesV at ih ⊢
    rw [strOfNums_data] at ih ⊢
    simp only [List.map_cons, ih]
    congr 1
    have : (UInt8.ofNat x.toNat).toNat = x.toNat := by rw [UInt8.toNat_ofNat']; omega
    rw [this]; congr 1; omega
theorem convS {h : Heap} {l : List Int} (hl : ∀ x, x ∈ l → isB x) : aconv prog h 9 30 (.string (strOfNums l)) = none ∧ aconvE prog h 9 30 (.string (strOfNums l)) = some (.slice (some ⟨h.size, 0, none⟩) l.length 0, h.new 5 (l.map (Value.int .u8))) := by
  have hb := bytesStr hl
  refine ⟨by simp [aconv, underlying9, underlying30], ?_⟩
  have hs := strOfNums_size l
  simp [aconvE, underlying9, underlying30, underlying5, asz5, hb, hs]
end Go.Proofs.YthmpaddhmgnkbaaDoor.Am
end
