/- The units of a line in plain terms, and how a row of them lies in memory. -/
import Derived.Test.YtcnjmmffipjadaaDoorFd
set_option linter.unusedSimpArgs false
set_option linter.unusedVariables false
set_option maxHeartbeats 1000000
namespace Go.Proofs.YtcnjmmffipjadaaDoor.Am
open Go Go.RowKit Go.Proofs.Tryd
structure U where
  fr : Int
  to : Int
  col : Int
  wd : Int
  tx : List Int
/-- May a mark at i join the unit u? -/
def joins (line : List Int) (i : Nat) (u : U) : Bool :=
  decide (¬ line.getD u.fr.toNat 0 = 9) && decide ((if zeroB (line.getD u.fr.toNat 0) = true then (i : Int) - u.fr + 1 else (i : Int) - u.fr) ≤ 2)
def ustep (line : List Int) (tab : Int) (i : Nat) (r : Int) (st : List U × Int) : List U × Int :=
  match st.1.getLast? with
  | some u => if zeroB r = true ∧ joins line i u = true then (st.1.dropLast ++ [{ u with to := i + 1, tx := u.tx ++ [r] }], st.2)
    else (st.1 ++ [⟨i, i + 1, st.2, uwidth r st.2 tab, utext r st.2 tab⟩], st.2 + uwidth r st.2 tab)
  | none => (st.1 ++ [⟨i, i + 1, st.2, uwidth r st.2 tab, utext r st.2 tab⟩], st.2 + uwidth r st.2 tab)
def unitsTo (line : List Int) (tab : Int) : Nat → List U × Int
  | 0 => ([], 0)
  | n + 1 => ustep line tab n (line.getD n 0) (unitsTo line tab n)
def unitsL (line : List Int) (tab : Int) : List U := (unitsTo line (tabZ tab) line.length).1

theorem widthZ_range (r : Int) : 0 ≤ widthZ r ∧ widthZ r ≤ 2 := by
  unfold widthZ; split
  · omega
  · split <;> omega
theorem widthZ_zero {r : Int} : widthZ r = 0 ↔ zeroB r = true := by
  unfold widthZ; split
  · simp [*]
  · split <;> simp [*]
theorem uwidth_range {r col tab : Int} (ht : 1 ≤ tab ∧ tab ≤ 64) : 1 ≤ uwidth r col tab ∧ uwidth r col tab ≤ 64 := by
  have h1 : 0 ≤ col % tab := Int.emod_nonneg _ (by omega)
  have h2 : col % tab < tab := Int.emod_lt_of_pos _ (by omega)
  have := widthZ_range r
  unfold uwidth; split
  · omega
  · split <;> omega
theorem showL_len (r : Int) : (showL r).length ≤ 2 := by
  unfold showL; split
  · split <;> simp
  · split <;> simp
theorem utext_len {r col tab : Int} (ht : 1 ≤ tab ∧ tab ≤ 64) : (utext r col tab).length ≤ 64 := by
  have h1 : 0 ≤ col % tab := Int.emod_nonneg _ (by omega)
  have := showL_len r
  unfold utext; split
  · simp; omega
  · split
    · simp
    · omega
/-- What holds of the units of each beginning. -/
structure UOk (n : Nat) (us : List U) (col : Int) : Prop where
  col0 : 0 ≤ col
  col1 : col ≤ 64 * n
  each : ∀ u, u ∈ us → 0 ≤ u.fr ∧ u.fr < u.to ∧ u.to ≤ n ∧ 0 ≤ u.col ∧ 1 ≤ u.wd ∧ u.wd ≤ 64 ∧ u.col + u.wd ≤ col ∧ u.tx.length ≤ 64 + n
  last : ∀ u, us.getLast? = some u → u.to = n ∧ u.col + u.wd = col
  len : us.length ≤ n
theorem UOk.grow {n : Nat} {us : List U} {col r tab : Int} (H : UOk n us col) (ht : 1 ≤ tab ∧ tab ≤ 64) : UOk (n + 1) (us ++ [⟨n, n + 1, col, uwidth r col tab, utext r col tab⟩]) (col + uwidth r col tab) := by
  obtain ⟨h1, h2, h3, h4, h5⟩ := H
  have hw := uwidth_range (r := r) (col := col) ht
  have hl := utext_len (r := r) (col := col) ht
  refine ⟨by omega, by omega, fun u hu => ?_, fun u hu => ?_, by simp; omega⟩
  · rcases List.mem_append.1 hu with h | h
    · have := h3 u h; omega
    · simp only [List.mem_singleton] at h; subst h; simp only; omega
  · simp only [List.getLast?_append, List.getLast?_singleton, Option.some_or, Option.some.injEq] at hu
    subst hu; simp
theorem UOk.step {line : List Int} {n : Nat} {us : List U} {col r tab : Int} (H : UOk n us col) (ht : 1 ≤ tab ∧ tab ≤ 64) : UOk (n + 1) (ustep line tab n r (us, col)).1 (ustep line tab n r (us, col)).2 := by
  unfold ustep
  simp only
  split
  · rename_i u hu
    split
    · obtain ⟨h1, h2, h3, h4, h5⟩ := H
      have hne : us ≠ [] := by intro e; subst e; simp at hu
      have hm : u ∈ us := List.mem_of_getLast? hu
      have hu3 := h3 u hm
      have hu4 := h4 u hu
      refine ⟨h1, by simp only; omega, fun v hv => ?_, fun v hv => ?_, ?_⟩
      · rcases List.mem_append.1 hv with h | h
        · have := h3 v ((List.dropLast_sublist _).subset h); simp only at *; omega
        · simp only [List.mem_singleton] at h; subst h; simp only [List.length_append, List.length_singleton]; omega
      · simp only [List.getLast?_append, List.getLast?_singleton, Option.some_or, Option.some.injEq] at hv
        subst hv; simp only; omega
      · simp only [List.length_append, List.length_dropLast, List.length_singleton]; omega
    · exact H.grow ht
  · exact H.grow ht
theorem unitsTo_ok {line : List Int} {tab : Int} (ht : 1 ≤ tab ∧ tab ≤ 64) : ∀ n, UOk n (unitsTo line tab n).1 (unitsTo line tab n).2
  | 0 => ⟨by simp [unitsTo], by simp [unitsTo], fun u hu => by simp [unitsTo] at hu, fun u hu => by simp [unitsTo] at hu, by simp [unitsTo]⟩
  | n + 1 => by
    have := unitsTo_ok (line := line) ht n
    simp only [unitsTo]
    exact this.step ht
theorem tabZ_range (t : Int) : 1 ≤ tabZ t ∧ tabZ t ≤ 64 := by unfold tabZ; split <;> omega

def cellsU (x : U × Value) : List Value := [.int .i64 x.1.fr, .int .i64 x.1.to, .int .i64 x.1.col, .int .i64 x.1.wd, x.2]
theorem cellsU_len (uv : List (U × Value)) : (uv.flatMap cellsU).length = uv.length * 5 := by
  induction uv with
  | nil => rfl
  | cons x uv ih => simp [List.flatMap_cons, cellsU, ih]; omega
theorem cellsU_at {uv : List (U × Value)} : ∀ {i j : Nat} {x : U × Value}, uv[i]? = some x → j < 5 → (uv.flatMap cellsU)[i * 5 + j]? = (cellsU x)[j]? := by
  induction uv with
  | nil => intro i j x h; simp at h
  | cons y uv ih =>
    intro i j x h hj
    cases i with
    | zero =>
      simp at h; subst h
      rw [List.flatMap_cons, List.getElem?_append_left (by simp [cellsU]; omega)]; simp
    | succ i =>
      simp at h
      rw [List.flatMap_cons, List.getElem?_append_right (by simp [cellsU]; omega)]
      rw [← ih h hj]
      congr 1
      simp [cellsU]; omega
theorem cellsU_set {pre : List (U × Value)} {x : U × Value} {j : Nat} {w : Value} (hj : j < 5) : ((pre ++ [x]).flatMap cellsU).set (pre.length * 5 + j) w = pre.flatMap cellsU ++ (cellsU x).set j w := by
  rw [List.flatMap_append, List.set_append, if_neg (by rw [cellsU_len]; omega)]
  rw [cellsU_len]
  congr 1
  rw [show pre.length * 5 + j - pre.length * 5 = j by omega]
  simp
/-- A row of units as a function reads it. -/
structure UR (h : Heap) (l : Value) (uv : List (U × Value)) : Prop where
  rd : Rd prog h 5 l uv.length (uv.flatMap cellsU)
  txt : ∀ x, x ∈ uv → RdI prog h .i32 x.2 x.1.tx
/-- A row of units that a function makes. -/
structure UL (B : Nat) (h : Heap) (l : Value) (uv : List (U × Value)) : Prop where
  own : Own prog B h 5 l uv.length (uv.flatMap cellsU)
  txt : ∀ x, x ∈ uv → RdI prog h .i32 x.2 x.1.tx
  fam : ∀ x, x ∈ uv → ∀ b k bl kl, blkOf x.2 = some b → h.get b = some k → blkOf l = some bl → h.get bl = some kl → k.fam ≠ kl.fam
  last : ∀ pre x, uv = pre ++ [x] → Own prog B h 1 x.2 x.1.tx.length (vI x.1.tx)
  frm : (uv = [] ∧ l = .slice none 0 0) ∨ ∃ a, l = .slice (some a) uv.length 0
theorem UL.ur {B : Nat} {h : Heap} {l : Value} {uv : List (U × Value)} (H : UL B h l uv) : UR h l uv := ⟨H.own.1, H.txt⟩
theorem UL.nil {B : Nat} {h : Heap} : UL B h (.slice none 0 0) [] :=
  ⟨Own.nil0, fun x hx => by simp at hx, fun x hx => by simp at hx, fun pre x e => by simp at e, .inl ⟨rfl, rfl⟩⟩
theorem UR.keeps {h h' : Heap} {l : Value} {uv : List (U × Value)} (H : UR h l uv) (K : Keeps h h') : UR h' l uv := ⟨H.rd.keeps K, fun x hx => (H.txt x hx).keeps K⟩
theorem UL.keeps {B : Nat} {h h' : Heap} {l : Value} {uv : List (U × Value)} (H : UL B h l uv) (K : Keeps h h') : UL B h' l uv := by
  refine ⟨H.own.keeps K, fun x hx => (H.txt x hx).keeps K, fun x hx b k bl kl h1 h2 h3 h4 => ?_, fun pre x e => (H.last pre x e).keeps K, H.frm⟩
  rw [K.at ((H.txt x hx).blk_lt h1).1] at h2
  rw [K.at (H.own.1.blk_lt h3).1] at h4
  exact H.fam x hx b k bl kl h1 h2 h3 h4
end Go.Proofs.YtcnjmmffipjadaaDoor.Am
