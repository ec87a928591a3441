/- The frame Am, sixth text: one operation that changes no memory: a world's run agrees with what is told of it. Nothing of a program stands here. -/
import Derived.Test.YtgfccaaalkkdlaaAmOps3
set_option linter.unusedVariables false
set_option linter.unusedSimpArgs false
namespace Go.Proofs.Ytgfccaaalkkdlaa.Am
open Go Go.RowKit

section
variable {P : Program} {w0 w : World} {ρ : Ren} {h : Heap} {n : Nat} {tm : Tm} {a : Act}
theorem builtin_rel {b : Builtin} {ts : Array TypeId} (ty : TypeId) {args args' : Array Value} (ha : AR ρ args args') {v : Value} (hv : abuiltin P b ts args = some v) :
    ∃ v', (∀ cs, (builtin b ts ty cs args').run P w = .ok (.value v') w) ∧ VR ρ v v' := by
  unfold abuiltin at hv
  split at hv
  · split at hv
    · rename_i t x ht hx
      obtain ⟨x', hx', hr⟩ := ha.get hx
      split at hv
      · rename_i s hd
        cases hv
        rw [hr.string_inv] at hx'
        exact ⟨_, fun cs => by simp [builtin, Builtin.len_, ht, hx', run_underlying hd]; rfl, VR.int _ _⟩
      · rename_i e m c n' hd
        cases hv
        obtain ⟨a', c', rfl, _⟩ := hr.slice_inv
        exact ⟨_, fun cs => by simp [builtin, Builtin.len_, ht, hx', run_underlying hd]; rfl, VR.int _ _⟩
      · cases hv
    · cases hv
  · split at hv
    · rename_i t x ht hx
      obtain ⟨x', hx', hr⟩ := ha.get hx
      split at hv
      · rename_i e m c n' hd
        cases hv
        obtain ⟨a', c', rfl, _, _, hc, _⟩ := hr.slice_inv
        obtain rfl : c' = n' := by rcases hc with hc | hc <;> omega
        exact ⟨_, fun cs => by simp [builtin, Builtin.cap_, ht, hx', run_underlying hd]; rfl, VR.int _ _⟩
      · cases hv
    · cases hv
  · unfold amm at hv
    split at hv
    · rename_i k x rest hargs
      obtain ⟨r, hr, rfl⟩ := Option.map_eq_some_iff.1 hv
      have hl : args.toList.length = args'.toList.length := by simpa using ha.1
      cases hl' : args'.toList with
      | nil => rw [hargs, hl'] at hl; simp at hl
      | cons x' rest' =>
        have hp : ∀ (i : Nat) (p q : Value), (Value.int k x :: rest)[i]? = some p → (x' :: rest')[i]? = some q → VR ρ p q := fun i p q h1 h2 => ha.2 i p q (by rw [← Array.getElem?_toList, hargs]; exact h1) (by rw [← Array.getElem?_toList, hl']; exact h2)
        have h0 := (hp 0 _ _ rfl rfl).int_inv
        subst h0
        have := mm_rel (P := P) (w := w) (ρ := ρ) (fun x y => if y < x then y else x) Builtin.min2 (fun _ _ _ _ => rfl) rest rest' (by rw [hargs, hl'] at hl; simpa using hl) (fun i p q h1 h2 => hp (i + 1) p q (by simpa using h1) (by simpa using h2)) k x r hr
        exact ⟨_, fun cs => by simp [builtin, Builtin.min_, hl', this], VR.int _ _⟩
    · cases hv
  · unfold amm at hv
    split at hv
    · rename_i k x rest hargs
      obtain ⟨r, hr, rfl⟩ := Option.map_eq_some_iff.1 hv
      have hl : args.toList.length = args'.toList.length := by simpa using ha.1
      cases hl' : args'.toList with
      | nil => rw [hargs, hl'] at hl; simp at hl
      | cons x' rest' =>
        have hp : ∀ (i : Nat) (p q : Value), (Value.int k x :: rest)[i]? = some p → (x' :: rest')[i]? = some q → VR ρ p q := fun i p q h1 h2 => ha.2 i p q (by rw [← Array.getElem?_toList, hargs]; exact h1) (by rw [← Array.getElem?_toList, hl']; exact h2)
        have h0 := (hp 0 _ _ rfl rfl).int_inv
        subst h0
        have := mm_rel (P := P) (w := w) (ρ := ρ) (fun x y => if x < y then y else x) Builtin.max2 (fun _ _ _ _ => rfl) rest rest' (by rw [hargs, hl'] at hl; simpa using hl) (fun i p q h1 h2 => hp (i + 1) p q (by simpa using h1) (by simpa using h2)) k x r hr
        exact ⟨_, fun cs => by simp [builtin, Builtin.max_, hl', this], VR.int _ _⟩
    · cases hv
  · cases hv

theorem evs_rel (H : HRel P w0 ρ h w) (T : TR ρ n tm a) {xs : Array Operand} (hx : ∀ x, x ∈ xs → oprOk P n x = true) : AR ρ (xs.map (ev tm)) (xs.map a.eval) := AR.map fun x hm => ev_rel H T (hx x hm)
theorem evo_rel (H : HRel P w0 ρ h w) (T : TR ρ n tm a) {x : Option Operand} (hx : ∀ y, x = some y → oprOk P n y = true) : OR ρ (x.map (ev tm)) (x.map a.eval) := by
  cases x with
  | none => trivial
  | some y => exact ev_rel H T (hx y rfl)

theorem aop_sound (H : HRel P w0 ρ h w) (T : TR ρ n tm a) {o : Oper} (hok : ∀ x, x ∈ o.op.operands → oprOk P n x = true) {v : Value} (hv : aop P tm h o.op = some v) :
    ∃ v', (execOp a.eval o).run P w = .ok (.value v') w ∧ VR ρ v v' := by
  obtain ⟨dst, op, ty, pos, aft, g⟩ := o
  simp only at hok hv
  unfold aop at hv
  split at hv
  · rename_i x
    cases hv
    exact ⟨_, by simp only [execOp]; rfl, ev_rel H T (hok x (by simp [Op.operands]))⟩
  · rename_i x
    cases hv
    exact ⟨_, by simp only [execOp]; rfl, ev_rel H T (hok x (by simp [Op.operands]))⟩
  · rename_i c x y
    split at hv
    · rename_i t ht
      cases hv
      have hc := ev_rel H T (hok c (by simp [Op.operands]))
      rw [ht] at hc
      have hc' := hc.bool_inv
      have h1 := ev_rel H T (hok x (by simp [Op.operands]))
      have h2 := ev_rel H T (hok y (by simp [Op.operands]))
      cases t
      · exact ⟨_, by simp [execOp, hc', asBool], h2⟩
      · exact ⟨_, by simp [execOp, hc', asBool], h1⟩
    · cases hv
  · rename_i t x
    split at hv
    · rename_i ad hx
      have hr := ev_rel H T (hok x (by simp [Op.operands]))
      rw [hx] at hr
      obtain ⟨a', he, hp⟩ := hr.ptr_inv
      obtain ⟨v', h1, h2⟩ := load_rel H hp hv
      exact ⟨v', by simp [execOp, he, Instr.loadAt, Instr.sureAddr, h1], h2⟩
    · cases hv
  · rename_i x
    split at hv
    · rename_i ad hx
      cases hv
      have hr := ev_rel H T (hok x (by simp [Op.operands]))
      rw [hx] at hr
      obtain ⟨a', he, hp⟩ := hr.ptr_inv
      exact ⟨_, by simp [execOp, he], VR.ptr hp⟩
    · cases hv
  · rename_i op t x y t2
    obtain ⟨v', h1, h2⟩ := binC_rel (w := w) (ev_rel H T (hok x (by simp [Op.operands]))) (ev_rel H T (hok y (by simp [Op.operands]))) hv
    refine ⟨v', ?_, h2⟩
    simp only [execOp, Sem.run_bind] at h1 ⊢
    rw [h1]; simp
  · rename_i op t x
    obtain ⟨v', h1, h2⟩ := un_rel (P := P) (w := w) (ev_rel H T (hok x (by simp [Op.operands]))) hv
    exact ⟨v', by simp [execOp, h1], h2⟩
  · rename_i s d x
    obtain ⟨v', h1, h2⟩ := conv_rel H (ev_rel H T (hok x (by simp [Op.operands]))) hv
    exact ⟨v', by simp [execOp, h1], h2⟩
  · rename_i t x
    split at hv
    · rename_i hc
      cases hv
      exact ⟨_, by simp [execOp, run_makeInterface w t _ hc], VR.iface (ev_rel H T (hok x (by simp [Op.operands])))⟩
    · cases hv
  · rename_i fn fi ca
    split at hv
    · rename_i hf
      cases hv
      exact ⟨_, by simp [execOp, Instr.makeFunc], VR.func hf (evs_rel H T (fun x hx => hok x (by simp [Op.operands, hx]))) (evs_rel H T (fun x hx => hok x (by simp [Op.operands, hx])))⟩
    · cases hv
  · rename_i t x lo hi mx
    obtain ⟨v', h1, h2⟩ := slice_rel H (ev_rel H T (hok x (by simp [Op.operands])))
      (evo_rel H T (x := lo) (fun y hy => hok y (by simp [Op.operands, hy]))) (evo_rel H T (x := hi) (fun y hy => hok y (by simp [Op.operands, hy]))) (evo_rel H T (x := mx) (fun y hy => hok y (by simp [Op.operands, hy]))) hv
    exact ⟨v', by simp [execOp, h1], h2⟩
  · rename_i t x f
    obtain ⟨v', h1, h2⟩ := fieldAddr_rel (w := w) (ev_rel H T (hok x (by simp [Op.operands]))) hv
    exact ⟨v', by simp [execOp, h1], h2⟩
  · rename_i t x f
    obtain ⟨v', h1, h2⟩ := field_rel (w := w) (ev_rel H T (hok x (by simp [Op.operands]))) hv
    exact ⟨v', by simp [execOp, h1], h2⟩
  · rename_i t x i
    obtain ⟨v', h1, h2⟩ := indexAddr_rel (w := w) (ev_rel H T (hok x (by simp [Op.operands]))) (ev_rel H T (hok i (by simp [Op.operands]))) hv
    exact ⟨v', by simp [execOp, h1], h2⟩
  · rename_i t x i
    obtain ⟨v', h1, h2⟩ := index_rel (w := w) (ev_rel H T (hok x (by simp [Op.operands]))) (ev_rel H T (hok i (by simp [Op.operands]))) hv
    exact ⟨v', by simp [execOp, h1], h2⟩
  · rename_i x i
    split at hv
    · rename_i vs hx
      have hr := ev_rel H T (hok x (by simp [Op.operands]))
      rw [hx] at hr
      obtain ⟨ys, he, hp⟩ := hr.tuple_inv
      obtain ⟨y, hy, hr2⟩ := hp.get hv
      exact ⟨y, by simp [execOp, he, Instr.extract, hy], hr2⟩
    · cases hv
  · rename_i t parts
    obtain ⟨v', h1, h2⟩ := build_rel (w := w) (ρ := ρ) (ps := parts.map fun (i, x) => (i, ev tm x)) (ps' := parts.map fun (i, x) => (i, a.eval x)) (by simp) (fun i p q h1 h2 => by
      simp only [Array.getElem?_map, Option.map_eq_some_iff] at h1 h2
      obtain ⟨x, hx, rfl⟩ := h1
      obtain ⟨y, hy, rfl⟩ := h2
      rw [hx] at hy; cases hy
      refine ⟨rfl, ev_rel H T (hok x.2 ?_)⟩
      have hm := Array.mem_of_getElem? hx
      simp only [Op.operands, List.mem_toArray, List.mem_map]
      exact ⟨x, by simpa using hm, rfl⟩) hv
    exact ⟨v', by simp [execOp, h1], h2⟩
  · rename_i b args ts
    obtain ⟨v', h1, h2⟩ := builtin_rel (w := w) (ts := ts) ty (evs_rel H T (xs := args) (fun x hx => hok x (by simp [Op.operands, Call.operands, hx]))) hv
    exact ⟨v', by simp [execOp, resolve, invoke, h1], h2⟩
  · cases hv
end
end Go.Proofs.Ytgfccaaalkkdlaa.Am
