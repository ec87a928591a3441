/- Folds behind a change: the contract of the document's Adjust, by a walk; that folds stay right. -/
import Derived.Test.YtgfccaaalkkdlaaOi
set_option linter.unusedSimpArgs false
set_option linter.unusedVariables false
set_option maxHeartbeats 4000000
set_option maxRecDepth 20000
namespace Go.Proofs.Ytgfccaaalkkdlaa.Am
open Go Go.RowKit Go.Proofs.Try
/-- Right folds stay right behind a change. -/
theorem adj_range {c o n : Int} (hc : 0 ≤ c) (ho : 0 ≤ o) (hn : 0 ≤ n) {f g : F} (hf : 0 ≤ f.fr ∧ f.fr < f.to) (h : adjF c o n f = some g) : 0 ≤ g.fr ∧ g.fr < g.to := by
  have keep : ∀ {fr to cl}, keepF fr to cl = some g → g.fr = fr ∧ g.to = to ∧ fr < to := fun h => by
    unfold keepF at h
    split at h
    · cases h; exact ⟨rfl, rfl, by assumption⟩
    · cases h
  unfold adjF at h
  repeat' split at h
  all_goals first
    | (cases h; done)
    | (obtain ⟨h1, h2, h3⟩ := keep h; omega)
theorem adj_order {c o n : Int} (hc : 0 ≤ c) (ho : 0 ≤ o) (hn : 0 ≤ n) {f f' g g' : F} (hf : 0 ≤ f.fr ∧ f.fr < f.to) (hg : 0 ≤ g.fr ∧ g.fr < g.to) (hfg : f.to < g.fr) (h : adjF c o n f = some f') (k : adjF c o n g = some g') : f'.to < g'.fr := by
  have keep : ∀ {fr to cl x}, keepF fr to cl = some x → x.fr = fr ∧ x.to = to ∧ fr < to := fun h => by
    unfold keepF at h
    split at h
    · cases h; exact ⟨rfl, rfl, by assumption⟩
    · cases h
  unfold adjF at h k
  repeat' split at h
  all_goals first
    | (cases h; done)
    | (obtain ⟨h1, h2, h3⟩ := keep h
       repeat' split at k
       all_goals first
         | (cases k; done)
         | (obtain ⟨k1, k2, k3⟩ := keep k; omega))
theorem rightGo_of : ∀ {l : List F} {e : Int}, (∀ (j : Nat) g, l[j]? = some g → e < g.fr ∧ g.fr < g.to) → (∀ (i j : Nat) f g, i < j → l[i]? = some f → l[j]? = some g → f.to < g.fr) → rightGo e l = true
  | [], e, _, _ => rfl
  | x :: l, e, h1, h2 => by
    have h0 := h1 0 x rfl
    simp only [rightGo]
    rw [if_neg (by omega)]
    exact rightGo_of (fun j g hg => ⟨h2 0 (j + 1) x g (by omega) rfl (by simpa using hg), (h1 (j + 1) g (by simpa using hg)).2⟩) (fun i j f g hij hf hg => h2 (i + 1) (j + 1) f g (by omega) (by simpa using hf) (by simpa using hg))
theorem fm_get {c o n : Int} : ∀ {l : List F} {k : Nat} {g : F}, (l.filterMap (adjF c o n))[k]? = some g → ∃ (i : Nat) (f : F), k ≤ i ∧ l[i]? = some f ∧ adjF c o n f = some g
  | [], k, g, h => by simp at h
  | x :: l, k, g, h => by
    cases hx : adjF c o n x with
    | none =>
      rw [List.filterMap_cons_none hx] at h
      obtain ⟨i, f, h1, h2, h3⟩ := fm_get h
      exact ⟨i + 1, f, by omega, by simpa using h2, h3⟩
    | some y =>
      rw [List.filterMap_cons_some hx] at h
      cases k with
      | zero => simp at h; subst h; exact ⟨0, x, Nat.le_refl _, rfl, hx⟩
      | succ k =>
        simp at h
        obtain ⟨i, f, h1, h2, h3⟩ := fm_get h
        exact ⟨i + 1, f, by omega, by simpa using h2, h3⟩
theorem fm_order {c o n : Int} (hc : 0 ≤ c) (ho : 0 ≤ o) (hn : 0 ≤ n) : ∀ {l : List F}, (∀ (j : Nat) g, l[j]? = some g → 0 ≤ g.fr ∧ g.fr < g.to) → (∀ (i j : Nat) f g, i < j → l[i]? = some f → l[j]? = some g → f.to < g.fr) →
    ∀ (i j : Nat) f g, i < j → (l.filterMap (adjF c o n))[i]? = some f → (l.filterMap (adjF c o n))[j]? = some g → f.to < g.fr
  | [], _, _, i, j, f, g, _, h, _ => by simp at h
  | x :: l, h1, h2, i, j, f, g, hij, hf, hg => by
    have ih := fm_order hc ho hn (l := l) (fun j g hg => h1 (j + 1) g (by simpa using hg)) (fun i j f g hij hf hg => h2 (i + 1) (j + 1) f g (by omega) (by simpa using hf) (by simpa using hg))
    cases hx : adjF c o n x with
    | none =>
      rw [List.filterMap_cons_none hx] at hf hg
      exact ih i j f g hij hf hg
    | some y =>
      rw [List.filterMap_cons_some hx] at hf hg
      cases j with
      | zero => omega
      | succ j =>
        simp at hg
        cases i with
        | succ i => simp at hf; exact ih i j f g (by omega) hf hg
        | zero =>
          simp at hf; subst hf
          obtain ⟨m, u, _, hu, hug⟩ := fm_get hg
          exact adj_order hc ho hn (h1 0 x rfl) (h1 (m + 1) u (by simpa using hu)) (h2 0 (m + 1) x u (by omega) rfl (by simpa using hu)) hx hug
theorem adj_right {c o n : Int} (hc : 0 ≤ c) (ho : 0 ≤ o) (hn : 0 ≤ n) {l : List F} (hr : rightB l = true) : rightB (l.filterMap (adjF c o n)) = true := by
  obtain ⟨r1, r2, r3⟩ := rightB_at hr
  have hlen := List.length_filterMap_le (adjF c o n) l
  simp only [rightB, Bool.and_eq_true, decide_eq_true_eq]
  refine ⟨rightGo_of (fun j g hg => ?_) (fm_order hc ho hn r1 r2), by omega⟩
  obtain ⟨i, f, _, hf, hfg⟩ := fm_get hg
  have := adj_range hc ho hn (r1 i f hf) hfg
  omega
end Go.Proofs.Ytgfccaaalkkdlaa.Am
