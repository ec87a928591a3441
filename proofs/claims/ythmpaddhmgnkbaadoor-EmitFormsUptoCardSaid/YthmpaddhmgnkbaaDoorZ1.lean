/- The texts of this seat, one behind another (part 1 of 25): the frame (an abstract machine), the contracts of functions, the laws. -/
import Derived.WalkKit
import Derived.Orders
section
/- The frame Am, first text: abstract heaps, and how their values lie in a world. Nothing of a program stands here. -/
set_option linter.unusedVariables false
namespace Go.Proofs.YthmpaddhmgnkbaaDoor.Am
open Go Go.RowKit

/-- Where an abstract block lies: a block, a place in it, the cells of an element, where its room ends; is it the open block of a range's deferred calls (mk). -/
structure Loc where
  blk : Nat
  off : Nat
  sz : Nat
  top : Nat
  mrk : Bool

abbrev Ren := Nat → Option Loc
def RenLe (ρ ρ' : Ren) : Prop := ∀ b L, ρ b = some L → ρ' b = some L
theorem RenLe.refl (ρ : Ren) : RenLe ρ ρ := fun _ _ h => h
theorem RenLe.trans {a b c : Ren} (h : RenLe a b) (k : RenLe b c) : RenLe a c := fun x L hx => k x L (h x L hx)

def PR (ρ : Ren) (a a' : Addr) : Prop := a.spot = none ∧ ∃ L, ρ a.block = some L ∧ a' = ⟨L.blk, L.off + a.off, none⟩
/-- A slice: the abstract cap is 0 (not known) or one more than the cap. -/
def SR (ρ : Ren) (a : Option Addr) (n c : Nat) (a' : Option Addr) (n' c' : Nat) : Prop :=
  n = n' ∧ n ≤ c' ∧ (c = 0 ∨ c = c' + 1) ∧
  match a, a' with
  | none, none => c' = 0
  | some x, some x' => (x.spot = none ∧ ∃ L, ρ x.block = some L ∧ x' = ⟨L.blk, L.off + x.off, none⟩ ∧ L.off + x.off + c' * L.sz ≤ L.top) ∨ c' = 0
  | _, _ => False
def MR (ρ : Ren) (r r' : Nat) : Prop := ∃ L, ρ r = some L ∧ L.blk = r'
def plainFn : Fn → Bool
  | .yield _ => false
  | _ => true
/-- Functions: the same one; or the yield of a range's record. -/
def FnR (ρ : Ren) (f f' : Fn) : Prop := (f = f' ∧ plainFn f = true) ∨ ∃ b l, f = .yield b ∧ f' = .yield l ∧ MR ρ b l

def VRn (ρ : Ren) : Nat → Value → Value → Prop
  | 0, _, _ => False
  | _ + 1, .bool a, .bool b => a = b
  | _ + 1, .int k x, .int k' x' => k = k' ∧ x = x'
  | _ + 1, .string s, .string s' => s = s'
  | _ + 1, .pointer none, .pointer none => True
  | _ + 1, .pointer (some a), .pointer (some a') => PR ρ a a'
  | _ + 1, .slice a n c, .slice a' n' c' => SR ρ a n c a' n' c'
  | _ + 1, .map none, .map none => True
  | _ + 1, .map (some r), .map (some r') => MR ρ r r'
  | _ + 1, .nilFunc, .nilFunc => True
  | m + 1, .func f xs ys, .func f' xs' ys' => FnR ρ f f' ∧
      (xs.size = xs'.size ∧ ∀ (i : Nat) (x y : Value), xs[i]? = some x → xs'[i]? = some y → VRn ρ m x y) ∧
      (ys.size = ys'.size ∧ ∀ (i : Nat) (x y : Value), ys[i]? = some x → ys'[i]? = some y → VRn ρ m x y)
  | _ + 1, .nilIface, .nilIface => True
  | m + 1, .iface t v, .iface t' v' => t = t' ∧ VRn ρ m v v'
  | m + 1, .agg xs, .agg ys => xs.size = ys.size ∧ ∀ (i : Nat) (x y : Value), xs[i]? = some x → ys[i]? = some y → VRn ρ m x y
  | m + 1, .tuple xs, .tuple ys => xs.size = ys.size ∧ ∀ (i : Nat) (x y : Value), xs[i]? = some x → ys[i]? = some y → VRn ρ m x y
  | _, _, _ => False

theorem SR.mono {ρ ρ' : Ren} (hρ : RenLe ρ ρ') {a n c a' n' c'} (h : SR ρ a n c a' n' c') : SR ρ' a n c a' n' c' := by
  obtain ⟨h1, h2, h3, h4⟩ := h
  refine ⟨h1, h2, h3, ?_⟩
  cases a <;> cases a' <;> simp only at h4 ⊢
  · exact h4
  · rcases h4 with ⟨hs, L, hL, h5⟩ | h5
    · exact .inl ⟨hs, L, hρ _ _ hL, h5⟩
    · exact .inr h5
theorem PR.mono {ρ ρ' : Ren} (hρ : RenLe ρ ρ') {a a'} (h : PR ρ a a') : PR ρ' a a' := by
  obtain ⟨hs, L, hL, h5⟩ := h
  exact ⟨hs, L, hρ _ _ hL, h5⟩
theorem MR.mono {ρ ρ' : Ren} (hρ : RenLe ρ ρ') {a a'} (h : MR ρ a a') : MR ρ' a a' := by
  obtain ⟨L, hL, h5⟩ := h
  exact ⟨L, hρ _ _ hL, h5⟩
theorem FnR.mono {ρ ρ' : Ren} (hρ : RenLe ρ ρ') {f f'} (h : FnR ρ f f') : FnR ρ' f f' := by
  rcases h with h | ⟨b, l, h1, h2, h3⟩
  · exact .inl h
  · exact .inr ⟨b, l, h1, h2, MR.mono hρ h3⟩

theorem VRn.mono {ρ ρ' : Ren} (hρ : RenLe ρ ρ') : ∀ (n : Nat) (v v' : Value), VRn ρ n v v' → ∀ m, n ≤ m → VRn ρ' m v v' := by
  intro n
  induction n with
  | zero => intro v v' h; exact h.elim
  | succ n ih =>
    intro v v' h m hm
    obtain ⟨m, rfl⟩ : ∃ k, m = k + 1 := ⟨m - 1, by omega⟩
    have hnm : n ≤ m := by omega
    clear hm
    have ih2 : ∀ v v', VRn ρ n v v' → VRn ρ' m v v' := fun v v' h => ih v v' h m hnm
    clear ih hnm
    cases v <;> cases v' <;> (try simp only [VRn] at h ⊢) <;> first
      | exact h
      | exact SR.mono hρ h
      | exact ⟨h.1, ih2 _ _ h.2⟩
      | exact ⟨h.1, fun i x y hx hy => ih2 _ _ (h.2 i x y hx hy)⟩
      | exact ⟨FnR.mono hρ h.1, ⟨h.2.1.1, fun i x y hx hy => ih2 _ _ (h.2.1.2 i x y hx hy)⟩, h.2.2.1, fun i x y hx hy => ih2 _ _ (h.2.2.2 i x y hx hy)⟩
      | (rename_i a b; cases a <;> cases b <;> simp only [VRn] at h ⊢ <;> first | exact h | exact PR.mono hρ h | exact MR.mono hρ h)

def VR (ρ : Ren) (v v' : Value) : Prop := ∃ n, VRn ρ n v v'
theorem VR.mono {ρ ρ' : Ren} (hρ : RenLe ρ ρ') {v v' : Value} (h : VR ρ v v') : VR ρ' v v' := by
  obtain ⟨n, h⟩ := h
  exact ⟨n, h.mono hρ n v v' n (Nat.le_refl _)⟩
def AR (ρ : Ren) (xs ys : Array Value) : Prop := xs.size = ys.size ∧ ∀ (i : Nat) (x y : Value), xs[i]? = some x → ys[i]? = some y → VR ρ x y
theorem AR.mono {ρ ρ' : Ren} (hρ : RenLe ρ ρ') {xs ys : Array Value} (h : AR ρ xs ys) : AR ρ' xs ys :=
  ⟨h.1, fun i x y hx hy => (h.2 i x y hx hy).mono hρ⟩

theorem most {p : Nat → Nat → Prop} (hm : ∀ i n m, n ≤ m → p i n → p i m) : ∀ N, (∀ i, i < N → ∃ n, p i n) → ∃ n, ∀ i, i < N → p i n
  | 0, _ => ⟨0, fun i h => absurd h (by omega)⟩
  | N + 1, h => by
    obtain ⟨a, ha⟩ := most hm N (fun i hi => h i (by omega))
    obtain ⟨b, hb⟩ := h N (by omega)
    refine ⟨max a b, fun i hi => ?_⟩
    by_cases e : i = N
    · subst e; exact hm _ _ _ (Nat.le_max_right _ _) hb
    · exact hm _ _ _ (Nat.le_max_left _ _) (ha i (by omega))
theorem AR.at_most {ρ : Ren} {xs ys : Array Value} (h : AR ρ xs ys) : ∃ n, ∀ (i : Nat) (x y : Value), xs[i]? = some x → ys[i]? = some y → VRn ρ n x y := by
  obtain ⟨n, hn⟩ := most (p := fun i n => ∀ x y, xs[i]? = some x → ys[i]? = some y → VRn ρ n x y)
    (fun i n m hnm hp x y hx hy => (hp x y hx hy).mono (RenLe.refl _) _ _ _ _ hnm) xs.size (fun i hi => by
      have hi' : i < ys.size := by have := h.1; omega
      obtain ⟨n, hn⟩ := h.2 i xs[i] ys[i] (by simp [hi]) (by simp [hi'])
      refine ⟨n, fun x y hx hy => ?_⟩
      simp [hi] at hx; simp [hi'] at hy
      subst hx; subst hy; exact hn)
  refine ⟨n, fun i x y hx hy => hn i ?_ x y hx hy⟩
  exact (Array.getElem?_eq_some_iff.1 hx).1

section
variable {ρ : Ren}
theorem VR.bool (b : Bool) : VR ρ (.bool b) (.bool b) := ⟨1, rfl⟩
theorem VR.int (k : IntKind) (x : Int) : VR ρ (.int k x) (.int k x) := ⟨1, rfl, rfl⟩
theorem VR.string (s : ByteArray) : VR ρ (.string s) (.string s) := ⟨1, rfl⟩
theorem VR.nilptr : VR ρ (.pointer none) (.pointer none) := ⟨1, trivial⟩
theorem VR.ptr {a a' : Addr} (h : PR ρ a a') : VR ρ (.pointer (some a)) (.pointer (some a')) := ⟨1, h⟩
theorem VR.slice {a n c a' n' c'} (h : SR ρ a n c a' n' c') : VR ρ (.slice a n c) (.slice a' n' c') := ⟨1, h⟩
theorem VR.nilslice : VR ρ (.slice none 0 0) (.slice none 0 0) := VR.slice ⟨rfl, Nat.le_refl _, .inl rfl, rfl⟩
theorem VR.nilmap : VR ρ (.map none) (.map none) := ⟨1, trivial⟩
theorem VR.map {r r'} (h : MR ρ r r') : VR ρ (.map (some r)) (.map (some r')) := ⟨1, h⟩
theorem VR.nilFunc : VR ρ .nilFunc .nilFunc := ⟨1, trivial⟩
theorem VR.nilIface : VR ρ .nilIface .nilIface := ⟨1, trivial⟩
theorem VR.iface {t v v'} (h : VR ρ v v') : VR ρ (.iface t v) (.iface t v') := by
  obtain ⟨n, h⟩ := h
  exact ⟨n + 1, rfl, h⟩
theorem VR.agg {xs ys} (h : AR ρ xs ys) : VR ρ (.agg xs) (.agg ys) := by
  obtain ⟨n, hn⟩ := h.at_most
  exact ⟨n + 1, h.1, hn⟩
theorem VR.tuple {xs ys} (h : AR ρ xs ys) : VR ρ (.tuple xs) (.tuple ys) := by
  obtain ⟨n, hn⟩ := h.at_most
  exact ⟨n + 1, h.1, hn⟩
theorem VR.func' {f f' xs ys xs' ys'} (hf : FnR ρ f f') (h : AR ρ xs xs') (k : AR ρ ys ys') : VR ρ (.func f xs ys) (.func f' xs' ys') := by
  obtain ⟨n, hn⟩ := h.at_most
  obtain ⟨m, hm⟩ := k.at_most
  exact ⟨max n m + 1, hf, ⟨h.1, fun i x y hx hy => (hn i x y hx hy).mono (RenLe.refl _) _ _ _ _ (Nat.le_max_left _ _)⟩, k.1, fun i x y hx hy => (hm i x y hx hy).mono (RenLe.refl _) _ _ _ _ (Nat.le_max_right _ _)⟩
theorem VR.func {f xs ys xs' ys'} (hf : plainFn f = true) (h : AR ρ xs xs') (k : AR ρ ys ys') : VR ρ (.func f xs ys) (.func f xs' ys') := VR.func' (.inl ⟨rfl, hf⟩) h k
theorem VR.undef : VR ρ undef undef := VR.tuple ⟨rfl, fun i x y hx hy => by simp at hx⟩

theorem VR.bool_inv {b v'} (h : VR ρ (.bool b) v') : v' = .bool b := by
  obtain ⟨n, h⟩ := h
  cases n with
  | zero => exact h.elim
  | succ n => cases v' <;> simp_all [VRn]
theorem VR.int_inv {k x v'} (h : VR ρ (.int k x) v') : v' = .int k x := by
  obtain ⟨n, h⟩ := h
  cases n with
  | zero => exact h.elim
  | succ n => cases v' <;> simp_all [VRn]
theorem VR.string_inv {s v'} (h : VR ρ (.string s) v') : v' = .string s := by
  obtain ⟨n, h⟩ := h
  cases n with
  | zero => exact h.elim
  | succ n => cases v' <;> simp_all [VRn]
theorem VR.pointer_inv {a v'} (h : VR ρ (.pointer a) v') : (a = none ∧ v' = .pointer none) ∨ ∃ x x', a = some x ∧ v' = .pointer (some x') ∧ PR ρ x x' := by
  obtain ⟨n, h⟩ := h
  cases n with
  | zero => exact h.elim
  | succ n => cases v' with
    | pointer a' => cases a <;> cases a' <;> simp_all [VRn]
    | _ => simp_all [VRn]
theorem VR.ptr_inv {a v'} (h : VR ρ (.pointer (some a)) v') : ∃ a', v' = .pointer (some a') ∧ PR ρ a a' := by
  rcases h.pointer_inv with ⟨h, _⟩ | ⟨x, x', h, h1, h2⟩
  · cases h
  · cases h; exact ⟨x', h1, h2⟩
theorem VR.nilptr_inv {v'} (h : VR ρ (.pointer none) v') : v' = .pointer none := by
  rcases h.pointer_inv with ⟨_, h⟩ | ⟨x, x', h, _⟩
  · exact h
  · cases h
theorem VR.slice_inv {a n c v'} (h : VR ρ (.slice a n c) v') : ∃ a' c', v' = .slice a' n c' ∧ SR ρ a n c a' n c' := by
  obtain ⟨m, h⟩ := h
  cases m with
  | zero => exact h.elim
  | succ m =>
    cases v' with
    | slice a' n' c' => obtain rfl : n = n' := h.1; exact ⟨a', c', rfl, h⟩
    | _ => simp_all [VRn]
theorem VR.map_inv {r v'} (h : VR ρ (.map r) v') : (r = none ∧ v' = .map none) ∨ ∃ x x', r = some x ∧ v' = .map (some x') ∧ MR ρ x x' := by
  obtain ⟨n, h⟩ := h
  cases n with
  | zero => exact h.elim
  | succ n => cases v' with
    | map a' => cases r <;> cases a' <;> simp_all [VRn]
    | _ => simp_all [VRn]
theorem VR.nilFunc_inv {v'} (h : VR ρ .nilFunc v') : v' = .nilFunc := by
  obtain ⟨n, h⟩ := h
  cases n with
  | zero => exact h.elim
  | succ n => cases v' <;> simp_all [VRn]
theorem VR.nilIface_inv {v'} (h : VR ρ .nilIface v') : v' = .nilIface := by
  obtain ⟨n, h⟩ := h
  cases n with
  | zero => exact h.elim
  | succ n => cases v' <;> simp_all [VRn]
theorem VR.iface_inv {t v v'} (h : VR ρ (.iface t v) v') : ∃ u, v' = .iface t u ∧ VR ρ v u := by
  obtain ⟨n, h⟩ := h
  cases n with
  | zero => exact h.elim
  | succ n =>
    cases v' with
    | iface t' u => obtain ⟨rfl, h⟩ := h; exact ⟨u, rfl, n, h⟩
    | _ => simp_all [VRn]
theorem VR.agg_inv {xs v'} (h : VR ρ (.agg xs) v') : ∃ ys, v' = .agg ys ∧ AR ρ xs ys := by
  obtain ⟨n, h⟩ := h
  cases n with
  | zero => exact h.elim
  | succ n =>
    cases v' with
    | agg ys => exact ⟨ys, rfl, h.1, fun i x y hx hy => ⟨n, h.2 i x y hx hy⟩⟩
    | _ => simp_all [VRn]
theorem VR.tuple_inv {xs v'} (h : VR ρ (.tuple xs) v') : ∃ ys, v' = .tuple ys ∧ AR ρ xs ys := by
  obtain ⟨n, h⟩ := h
  cases n with
  | zero => exact h.elim
  | succ n =>
    cases v' with
    | tuple ys => exact ⟨ys, rfl, h.1, fun i x y hx hy => ⟨n, h.2 i x y hx hy⟩⟩
    | _ => simp_all [VRn]
theorem VR.func_inv {f xs ys v'} (h : VR ρ (.func f xs ys) v') : ∃ f' xs' ys', v' = .func f' xs' ys' ∧ FnR ρ f f' ∧ AR ρ xs xs' ∧ AR ρ ys ys' := by
  obtain ⟨n, h⟩ := h
  cases n with
  | zero => exact h.elim
  | succ n =>
    cases v' with
    | func f' xs' ys' =>
      obtain ⟨hf, h, k⟩ := h
      exact ⟨f', xs', ys', rfl, hf, ⟨h.1, fun i x y hx hy => ⟨n, h.2 i x y hx hy⟩⟩, k.1, fun i x y hx hy => ⟨n, k.2 i x y hx hy⟩⟩
    | _ => simp_all [VRn]

theorem VR.func_inv' {g xs ys v'} (h : VR ρ (.func (.func g) xs ys) v') : ∃ xs' ys', v' = .func (.func g) xs' ys' ∧ AR ρ xs xs' ∧ AR ρ ys ys' := by
  obtain ⟨f', xs', ys', e, hf, h1, h2⟩ := h.func_inv
  rcases hf with ⟨rfl, _⟩ | ⟨b, l, hb, _⟩
  · exact ⟨xs', ys', e, h1, h2⟩
  · cases hb
theorem VR.yield_inv {b xs ys v'} (h : VR ρ (.func (.yield b) xs ys) v') : ∃ l xs' ys', v' = .func (.yield l) xs' ys' ∧ MR ρ b l ∧ AR ρ xs xs' ∧ AR ρ ys ys' := by
  obtain ⟨f', xs', ys', e, hf, h1, h2⟩ := h.func_inv
  rcases hf with ⟨rfl, hf⟩ | ⟨b', l, hb, rfl, hm⟩
  · cases hf
  · cases hb; exact ⟨l, xs', ys', e, hm, h1, h2⟩
/-- Renamings that lay all in the same places. -/
def RenEq (ρ ρ' : Ren) : Prop := ∀ b, (ρ b).map (fun L => (L.blk, L.off, L.sz, L.top)) = (ρ' b).map (fun L => (L.blk, L.off, L.sz, L.top))
theorem RenEq.get {ρ ρ' : Ren} (h : RenEq ρ ρ') {b L} (hb : ρ b = some L) : ∃ L', ρ' b = some L' ∧ L'.blk = L.blk ∧ L'.off = L.off ∧ L'.sz = L.sz ∧ L'.top = L.top := by
  have := h b
  rw [hb] at this
  cases h' : ρ' b with
  | none => rw [h'] at this; cases this
  | some L' =>
    rw [h'] at this
    simp only [Option.map_some, Option.some.injEq, Prod.mk.injEq] at this
    exact ⟨L', rfl, this.1.symm, this.2.1.symm, this.2.2.1.symm, this.2.2.2.symm⟩
theorem RenEq.symm {ρ ρ' : Ren} (h : RenEq ρ ρ') : RenEq ρ' ρ := fun b => (h b).symm
theorem RenEq.trans {ρ ρ' ρ'' : Ren} (h : RenEq ρ ρ') (k : RenEq ρ' ρ'') : RenEq ρ ρ'' := fun b => (h b).trans (k b)
theorem RenEq.refl (ρ : Ren) : RenEq ρ ρ := fun _ => rfl
theorem PR.eqv {ρ ρ' : Ren} (hρ : RenEq ρ ρ') {a a'} (h : PR ρ a a') : PR ρ' a a' := by
  obtain ⟨hs, L, hL, h5⟩ := h
  obtain ⟨L', g, g1, g2, _, _⟩ := hρ.get hL
  exact ⟨hs, L', g, by rw [h5, g1, g2]⟩
theorem MR.eqv {ρ ρ' : Ren} (hρ : RenEq ρ ρ') {a a'} (h : MR ρ a a') : MR ρ' a a' := by
  obtain ⟨L, hL, h5⟩ := h
  obtain ⟨L', g, g1, g2, _, _⟩ := hρ.get hL
  exact ⟨L', g, by rw [g1, h5]⟩
theorem FnR.eqv {ρ ρ' : Ren} (hρ : RenEq ρ ρ') {f f'} (h : FnR ρ f f') : FnR ρ' f f' := by
  rcases h with h | ⟨b, l, h1, h2, h3⟩
  · exact .inl h
  · exact .inr ⟨b, l, h1, h2, MR.eqv hρ h3⟩
theorem SR.eqv {ρ ρ' : Ren} (hρ : RenEq ρ ρ') {a n c a' n' c'} (h : SR ρ a n c a' n' c') : SR ρ' a n c a' n' c' := by
  obtain ⟨h1, h2, h3, h4⟩ := h
  refine ⟨h1, h2, h3, ?_⟩
  cases a <;> cases a' <;> simp only at h4 ⊢
  · exact h4
  · rcases h4 with ⟨hs, L, hL, h5, h6⟩ | h5
    · obtain ⟨L', g, g1, g2, g3, g4⟩ := hρ.get hL
      exact .inl ⟨hs, L', g, by rw [h5, g1, g2], by rw [g2, g3, g4]; exact h6⟩
    · exact .inr h5
theorem VRn.eqv {ρ ρ' : Ren} (hρ : RenEq ρ ρ') : ∀ (n : Nat) (v v' : Value), VRn ρ n v v' → VRn ρ' n v v' := by
  intro n
  induction n with
  | zero => intro v v' h; exact h.elim
  | succ n ih =>
    intro v v' h
    cases v <;> cases v' <;> (try simp only [VRn] at h ⊢) <;> first
      | exact h
      | exact SR.eqv hρ h
      | exact ⟨h.1, ih _ _ h.2⟩
      | exact ⟨h.1, fun i x y hx hy => ih _ _ (h.2 i x y hx hy)⟩
      | exact ⟨FnR.eqv hρ h.1, ⟨h.2.1.1, fun i x y hx hy => ih _ _ (h.2.1.2 i x y hx hy)⟩, h.2.2.1, fun i x y hx hy => ih _ _ (h.2.2.2 i x y hx hy)⟩
      | (rename_i a b; cases a <;> cases b <;> simp only [VRn] at h ⊢ <;> first | exact h | exact PR.eqv hρ h | exact MR.eqv hρ h)
theorem VR.eqv {ρ ρ' : Ren} (hρ : RenEq ρ ρ') {v v' : Value} (h : VR ρ v v') : VR ρ' v v' := by
  obtain ⟨n, h⟩ := h
  exact ⟨n, VRn.eqv hρ n v v' h⟩

theorem AR.nil : AR ρ #[] #[] := ⟨rfl, fun i x y hx hy => by simp at hx⟩
theorem AR.push {xs ys : Array Value} {x y : Value} (h : AR ρ xs ys) (k : VR ρ x y) : AR ρ (xs.push x) (ys.push y) := by
  refine ⟨by simp [h.1], fun i a b ha hb => ?_⟩
  rw [Array.getElem?_push] at ha hb
  rw [← h.1] at hb
  split at ha
  · rename_i hi
    rw [if_pos hi] at hb
    cases ha; cases hb; exact k
  · rename_i hi
    rw [if_neg hi] at hb
    exact h.2 i a b ha hb
theorem AR.append {xs ys xs' ys' : Array Value} (h : AR ρ xs ys) (k : AR ρ xs' ys') : AR ρ (xs ++ xs') (ys ++ ys') := by
  refine ⟨by simp [h.1, k.1], fun i a b ha hb => ?_⟩
  rw [Array.getElem?_append] at ha hb
  rw [← h.1] at hb
  split at ha
  · rename_i hi
    rw [if_pos hi] at hb
    exact h.2 i a b ha hb
  · rename_i hi
    rw [if_neg hi] at hb
    exact k.2 _ a b ha hb
theorem AR.map {α : Type} {l : Array α} {f g : α → Value} (h : ∀ x, x ∈ l → VR ρ (f x) (g x)) : AR ρ (l.map f) (l.map g) := by
  refine ⟨by simp, fun i a b ha hb => ?_⟩
  simp only [Array.getElem?_map, Option.map_eq_some_iff] at ha hb
  obtain ⟨x, hx, rfl⟩ := ha
  obtain ⟨y, hy, rfl⟩ := hb
  rw [hx] at hy; cases hy
  exact h x (Array.mem_of_getElem? hx)
theorem AR.get {xs ys : Array Value} {i : Nat} {x : Value} (h : AR ρ xs ys) (hx : xs[i]? = some x) : ∃ y, ys[i]? = some y ∧ VR ρ x y := by
  have hi := (Array.getElem?_eq_some_iff.1 hx).1
  have hi' : i < ys.size := by have := h.1; omega
  exact ⟨ys[i], by simp [hi'], h.2 i x _ hx (by simp [hi'])⟩
theorem AR.getD {xs ys : Array Value} (h : AR ρ xs ys) (i : Nat) {d d' : Value} (hd : VR ρ d d') : VR ρ (xs.getD i d) (ys.getD i d') := by
  by_cases hi : i < xs.size
  · have hi' : i < ys.size := by have := h.1; omega
    simp only [Array.getD, hi, hi', dif_pos]
    exact h.2 i _ _ (by simp [hi]) (by simp [hi'])
  · have hi' : ¬ i < ys.size := by have := h.1; omega
    simp only [Array.getD, hi, hi', dif_neg, not_false_eq_true]
    exact hd
theorem AR.extract {xs ys : Array Value} (h : AR ρ xs ys) (i j : Nat) : AR ρ (xs.extract i j) (ys.extract i j) := by
  refine ⟨by simp [h.1], fun k a b ha hb => ?_⟩
  rw [Array.getElem?_extract] at ha hb
  split at ha
  · rename_i hk
    rw [← h.1, if_pos hk] at hb
    exact h.2 _ a b ha hb
  · cases ha

/-- Is it the value of one cell? -/
def one : Value → Bool
  | .agg _ | .tuple _ => false
  | _ => true
theorem VR.one_eq {v v'} (h : VR ρ v v') : one v' = one v := by
  obtain ⟨n, h⟩ := h
  cases n with
  | zero => exact h.elim
  | succ n => cases v <;> cases v' <;> simp_all [VRn, one]
theorem VR.cells {v v'} (h : VR ρ v v') : AR ρ v.cells v'.cells := by
  have h1 : ∀ u u', VR ρ u u' → (∀ xs, u ≠ .agg xs) → AR ρ #[u] #[u'] := fun u u' hu _ => AR.push AR.nil hu
  cases v with
  | agg xs =>
    obtain ⟨ys, rfl, k⟩ := h.agg_inv
    exact k
  | _ =>
    have hc : v'.cells = #[v'] := by
      obtain ⟨n, h⟩ := h
      cases n with
      | zero => exact h.elim
      | succ n => cases v' <;> simp_all [VRn, Value.cells]
    rw [hc]
    exact h1 _ _ h (by simp)
end
end Go.Proofs.YthmpaddhmgnkbaaDoor.Am
end
