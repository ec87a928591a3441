/- The frame Am, seventh text: the operations that make or write memory, told of abstract heaps, and that a world's run agrees. Nothing of a program stands here. -/
import Derived.Test.YtgfccaaalkkdlaaAmStep
set_option linter.unusedVariables false
set_option linter.unusedSimpArgs false
namespace Go.Proofs.Ytgfccaaalkkdlaa.Am
open Go Go.RowKit

section
variable {P : Program} {w0 w : World} {ρ : Ren} {h : Heap}
theorem run_store1 {a : Addr} {v u : Value} (h1 : one v = true) (hc : w.cell? a = some u) (hf : w.frozen? a = false) : (store a v).run P w = .ok () (w.setCell a v) := by
  cases v <;> first | (cases h1; done) | simp [store, Sem.run, hc, hf]
theorem run_cells (g o : Nat) (t : TypeId) (fr : Nat × Nat) : ∀ (vs : List Value) (i : Nat) (arr : Array Value) (w : World), (∀ v, v ∈ vs → one v = true) → w.heap[g]? = some (.cells arr t fr) → o + i + vs.length ≤ arr.size →
    (∀ j, j < arr.size → ¬ (fr.1 ≤ j ∧ j < fr.2)) →
    ∃ w1, (storeCells ⟨g, o, none⟩ vs i).run P w = .ok () w1 ∧ w1.os = w.os ∧ w1.tape = w.tape ∧ w1.output = w.output ∧ w1.heap.size = w.heap.size ∧ (∀ x, x ≠ g → w1.heap[x]? = w.heap[x]?) ∧
      ∃ arr', w1.heap[g]? = some (.cells arr' t fr) ∧ arr'.size = arr.size ∧ ∀ j, arr'[j]? = if o + i ≤ j ∧ j < o + i + vs.length then vs[j - (o + i)]? else arr[j]? := by
  intro vs
  induction vs with
  | nil =>
    intro i arr w _ hg _ _
    refine ⟨w, by simp [storeCells], rfl, rfl, rfl, rfl, fun _ _ => rfl, arr, hg, rfl, fun j => ?_⟩
    rw [if_neg (by simp only [List.length_nil]; omega)]
  | cons v vs ih =>
    intro i arr w h1 hg hroom hfr
    simp only [List.length_cons] at hroom
    have hc : w.cell? ⟨g, o + i, none⟩ = some (arr[o + i]'(by omega)) := by
      simp only [World.cell?, hg, Option.isSome_none, Bool.false_eq_true, if_false]
      exact Array.getElem?_eq_getElem _
    have hf : w.frozen? ⟨g, o + i, none⟩ = false := by
      simp only [World.frozen?, hg]
      have := hfr (o + i) (by omega)
      simp only [Bool.and_eq_false_iff, decide_eq_false_iff_not]
      omega
    have hs := run_store1 (P := P) (h1 v (by simp)) hc hf
    have hg1 : (w.setCell ⟨g, o + i, none⟩ v).heap[g]? = some (.cells (arr.setIfInBounds (o + i) v) t fr) := by
      simp only [World.setCell, Array.getElem?_modify, if_true, hg, Option.map_some, Option.isSome_none, Bool.false_eq_true, if_false]
    obtain ⟨w1, r1, r2, r3, r4, r5, r6, arr', r7, r8, r9⟩ := ih (i + 1) (arr.setIfInBounds (o + i) v) (w.setCell ⟨g, o + i, none⟩ v) (fun u hu => h1 u (by simp [hu])) hg1 (by simp only [Array.size_setIfInBounds]; omega) (fun j hj => hfr j (by simpa using hj))
    refine ⟨w1, ?_, r2, r3, r4, by rw [r5]; simp [World.setCell], fun x hx => ?_, arr', r7, by rw [r8]; simp, fun j => ?_⟩
    · simp only [storeCells, Sem.run_bind, add_plain', hs, Result.andThen_ok]
      exact r1
    · rw [r6 x hx]
      simp only [World.setCell, Array.getElem?_modify]
      rw [if_neg (fun e => hx e.symm)]
    · rw [r9]
      by_cases e : j = o + i
      · subst e
        rw [if_neg (by omega), if_pos (by simp only [List.length_cons]; omega), show o + i - (o + i) = 0 from by omega, Array.getElem?_setIfInBounds, if_pos rfl, if_pos (by omega)]
        rfl
      · by_cases hj : o + (i + 1) ≤ j ∧ j < o + (i + 1) + vs.length
        · rw [if_pos hj, if_pos (by simp only [List.length_cons]; omega)]
          obtain ⟨m, hm⟩ : ∃ m, j = o + (i + 1) + m := ⟨j - (o + (i + 1)), by omega⟩
          subst hm
          rw [show o + (i + 1) + m - (o + (i + 1)) = m from by omega, show o + (i + 1) + m - (o + i) = m + 1 from by omega]
          rfl
        · rw [if_neg hj, if_neg (by simp only [List.length_cons]; omega)]
          rw [Array.getElem?_setIfInBounds, if_neg (fun e' => e e'.symm)]

theorem below_alloc' (w : World) (o : Obj) : Below w.heap.size w (w.alloc o) := (Below.refl _ _).alloc (Nat.le_refl _) o
/-- A new row. -/
theorem new_rel (H : HRel P w0 ρ h w) {e : TypeId} {s : Nat} (hs : asz P e = some s) {cells : List Value} {cs : Array Value} (hone : ∀ v, v ∈ cells → one v = true) (hc : AR ρ cells.toArray cs) (rest : Array Value) :
    ∃ ρ', RenLe ρ ρ' ∧ HRel P w0 ρ' (h.new e cells) (w.alloc (.cells (cs ++ rest) e)) ∧ ρ' h.size = some ⟨w.heap.size, 0, s, cs.size + rest.size, false⟩ := by
  obtain ⟨i, hi, rfl⟩ := Option.map_eq_some_iff.1 hs
  refine ⟨_, H.le_add ⟨w.heap.size, 0, i.size, (cs ++ rest).size, false⟩, H.pushed (Nat.le_refl _) hi (below_alloc' w _) (heap_alloc_new w _) ⟨Nat.le_refl _, fun o _ => by simp, ⟨i, hi, rfl⟩, fun _ => by simp⟩ ?_ ?_, ?_⟩
  · have := hc.1; simp at this ⊢; omega
  · intro j v hj
    have hjl := (List.getElem?_eq_some_iff.1 hj).1
    obtain ⟨y, hy, hr⟩ := hc.get (i := j) (x := v) (by simpa using hj)
    have hjc := (Array.getElem?_eq_some_iff.1 hy).1
    exact ⟨hone v (List.mem_of_getElem? hj), y, by rw [Array.getElem?_append_left hjc]; exact hy, hr⟩
  · rw [Ren.add_self]; simp
end
end Go.Proofs.Ytgfccaaalkkdlaa.Am
