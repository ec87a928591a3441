/- Bytes that are fed: what comes of them, in plain terms; no program in sight. -/
import Derived.Test.YtgllmnckphbkeaaVi
set_option linter.unusedSimpArgs false
set_option linter.unusedVariables false
set_option maxHeartbeats 4000000
namespace Go.Proofs.Ytgllmnckphbkeaa.Am
open Go Go.RowKit Go.Proofs.Try
def vI (l : List Int) : List Value := l.map (Value.int .i32)
inductive Fed : List Int → List Int → List Int → Prop
  | done {b : List Int} (h : nextZ b = none) : Fed b [] b
  | step {b : List Int} {r : Int} {n : Nat} {l s : List Int} (h : nextZ b = some (r, n)) (t : Fed (b.drop n) l s) : Fed b (r :: l) s
theorem Fed.det {b l s : List Int} (H : Fed b l s) : ∀ {l' s' : List Int}, Fed b l' s' → l = l' ∧ s = s' := by
  induction H with
  | done h =>
    intro l' s' G
    cases G with
    | done g => exact ⟨rfl, rfl⟩
    | step g _ => rw [h] at g; cases g
  | step h t ih =>
    intro l' s' G
    cases G with
    | done g => rw [h] at g; cases g
    | step g u =>
      rw [h] at g
      simp only [Option.some.injEq, Prod.mk.injEq] at g
      obtain ⟨rfl, rfl⟩ := g
      obtain ⟨e1, e2⟩ := ih u
      exact ⟨by rw [e1], e2⟩
theorem Fed.app {a l s b : List Int} (H : Fed a l s) : ∀ {l' s' : List Int}, Fed (s ++ b) l' s' → Fed (a ++ b) (l ++ l') s' := by
  induction H with
  | done h => intro l' s' G; exact G
  | @step a r n l s h t ih =>
    intro l' s' G
    have hl := nextZ_le h
    refine .step (nextZ_app h) ?_
    rw [List.drop_append_of_le_length hl.2.1]
    exact ih G
theorem Fed.bound {b l s : List Int} (H : Fed b l s) : l.length + s.length ≤ b.length ∧ s.length ≤ 3 ∧ (∀ x, x ∈ s → x ∈ b) ∧ nextZ s = none := by
  induction H with
  | done h => exact ⟨by simp, (nextZ_none h).1, fun x hx => hx, h⟩
  | step h t ih =>
    have hl := nextZ_le h
    obtain ⟨h1, h2, h3, h4⟩ := ih
    simp only [List.length_drop, List.length_cons] at h1 ⊢
    exact ⟨by omega, h2, fun x hx => List.mem_of_mem_drop (h3 x hx), h4⟩
theorem Fed.enc {b l s : List Int} (H : Fed b l s) : ∀ a : List Int, Fed (encL a ++ b) (a.map fixR ++ l) s
  | [] => H
  | r :: a => by
    have h := nextZ_enc (fixR_valid (r := r)) (encL a ++ b)
    have e : encL (r :: a) ++ b = encV (fixR r) ++ (encL a ++ b) := by simp [encL, encR]
    rw [e]
    refine .step h ?_
    rw [List.drop_left]
    exact H.enc a
theorem nextZ_cont {x : Int} {t : List Int} (h0 : 128 ≤ x) (h1 : x ≤ 191) : nextZ (x :: t) = some (65533, 1) := by
  have : leadN x = 0 := by unfold leadN; rw [if_neg (by omega), if_pos (by omega)]
  simp [nextZ, this]
def Dec (b l : List Int) : Prop := ∃ l1 s, Fed b l1 s ∧ l = l1 ++ List.replicate s.length 65533
theorem Dec.det {b l l' : List Int} (H : Dec b l) (G : Dec b l') : l = l' := by
  obtain ⟨l1, s, H, rfl⟩ := H
  obtain ⟨l2, s2, G, rfl⟩ := G
  obtain ⟨rfl, rfl⟩ := H.det G
  rfl
theorem Dec.len {b l : List Int} (H : Dec b l) : l.length ≤ b.length := by
  obtain ⟨l1, s, H, rfl⟩ := H
  have := H.bound.1
  simp only [List.length_append, List.length_replicate]; omega
inductive RDec : List Int → List Int → Prop
  | nil : RDec [] []
  | step {b : List Int} {r : Int} {n : Nat} {l : List Int} (hne : b ≠ []) (h : (wholeZ b).getD (65533, 1) = (r, n)) (t : RDec (b.drop n) l) : RDec b (r :: l)
theorem RDec.det {b l : List Int} (H : RDec b l) : ∀ {l' : List Int}, RDec b l' → l = l' := by
  induction H with
  | nil =>
    intro l' G
    cases G with
    | nil => rfl
    | step h _ _ => exact absurd rfl h
  | step hne h t ih =>
    intro l' G
    cases G with
    | nil => exact absurd rfl hne
    | step _ g u =>
      rw [h] at g
      simp only [Prod.mk.injEq] at g
      obtain ⟨rfl, rfl⟩ := g
      rw [ih u]
theorem RDec.bad : ∀ {s : List Int}, (∀ x, x ∈ s → 128 ≤ x ∧ x ≤ 191) → RDec s (List.replicate s.length 65533)
  | [], _ => .nil
  | x :: s, h => by
    have hx := h x (by simp)
    refine .step (by simp) (n := 1) ?_ (RDec.bad (s := s) fun y hy => h y (by simp [hy]))
    simp [wholeZ, nextZ_cont hx.1 hx.2]
theorem RDec.none {s : List Int} (h : nextZ s = none) : RDec s (List.replicate s.length 65533) := by
  cases s with
  | nil => exact .nil
  | cons x s =>
    refine .step (by simp) (n := 1) ?_ (RDec.bad fun y hy => (nextZ_none h).2 y hy)
    simp [wholeZ, h]
theorem Fed.rdec {b l s : List Int} (H : Fed b l s) : RDec b (l ++ List.replicate s.length 65533) := by
  induction H with
  | done h => exact RDec.none h
  | @step b r n l s h t ih =>
    refine .step (n := n) ?_ ?_ ih
    · rintro rfl; simp [nextZ] at h
    · simp only [wholeZ, h]
      split
      · rename_i e; rw [e]; rfl
      · rfl
theorem Dec.rdec {b l : List Int} (H : Dec b l) : RDec b l := by
  obtain ⟨l1, s, H, rfl⟩ := H
  exact H.rdec
theorem Dec.enc {b l : List Int} (H : Dec b l) (a : List Int) : Dec (encL a ++ b) (a.map fixR ++ l) := by
  obtain ⟨l1, s, H, rfl⟩ := H
  exact ⟨_, s, H.enc a, by simp⟩
theorem Dec.nil : Dec [] [] := ⟨[], [], .done rfl, rfl⟩
theorem Dec.encAll (a : List Int) : Dec (encL a) (a.map fixR) := by simpa using Dec.enc Dec.nil a
end Go.Proofs.Ytgllmnckphbkeaa.Am
