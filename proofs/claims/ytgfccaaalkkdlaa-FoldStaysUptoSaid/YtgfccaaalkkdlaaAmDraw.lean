/- The frame Am, a text beside the others: regions that draw their order. Nothing of a program stands here. -/
import Derived.Test.YtgfccaaalkkdlaaAmCall
set_option linter.unusedVariables false
set_option linter.unusedSimpArgs false
namespace Go.Proofs.Ytgfccaaalkkdlaa.Am
open Go Go.RowKit

/-- The edges that bind. -/
def preds (o : Oper) : List Nat := (o.after.toList.filter (Region.binds .any)).map (·.on)
def looks (ops : Array Oper) (o : Oper) : List Tmp := Oper.looksAt ops o
/-- The value of an operation, its guard included. -/
def aval (P : Program) (ops : Array Oper) (tm : Tm) (h : Heap) (o : Oper) : Option Value :=
  match o.guard with
  | none => aop P tm h o.op
  | some (j, want) => (match gval ops tm j with
    | some b => if b = want then aop P tm h o.op else some undef
    | none => some undef)

section
variable {P : Program} {w0 w : World} {ρ : Ren} {h : Heap} {n : Nat} {tm : Tm} {a : Act} {Q : Exit → Tm → Heap → Prop} {ops : Array Oper}
/-- The tables agree on what an operation looks at. -/
theorem ev_congr {tm tm' : Tm} {x : Operand} (hx : ∀ t, x = .tmp t → tm t = tm' t) : ev tm x = ev tm' x := by
  cases x with
  | tmp t => exact hx t rfl
  | _ => rfl
theorem mem_looks_of {o : Oper} {t : Tmp} (ht : Operand.tmp t ∈ o.op.operands) : t ∈ looks ops o := by
  simp only [looks, Oper.looksAt, List.mem_append, List.mem_filterMap]
  exact .inl ⟨.tmp t, by simpa using ht, rfl⟩
theorem evs_congr {tm tm' : Tm} {o : Oper} (hl : ∀ t, t ∈ looks ops o → tm t = tm' t) {x : Operand} (hx : x ∈ o.op.operands) : ev tm x = ev tm' x :=
  ev_congr fun t ht => hl t (mem_looks_of (by rw [← ht]; exact hx))
theorem gval_congr {tm tm' : Tm} {o : Oper} (hl : ∀ t, t ∈ looks ops o → tm t = tm' t) {j : Nat} {want : Bool} (hg : o.guard = some (j, want)) : gval ops tm j = gval ops tm' j := by
  unfold gval
  cases hd : (ops[j]?).bind (·.dst) with
  | none => rfl
  | some d =>
    simp only
    rw [hl d]
    simp only [looks, Oper.looksAt, List.mem_append]
    right
    rw [hg]; simp [hd]
theorem amap_congr {α β : Type} {f g : α → β} {xs : Array α} (h : ∀ x, x ∈ xs → f x = g x) : xs.map f = xs.map g := by
  apply Array.ext'
  simp only [Array.toList_map]
  exact List.map_congr_left fun x hx => h x (by simpa using hx)
theorem omap_congr {α β : Type} {f g : α → β} {xs : Option α} (h : ∀ x, xs = some x → f x = g x) : xs.map f = xs.map g := by
  cases xs with
  | none => rfl
  | some x => simp [h x rfl]
theorem aop_congr {tm tm' : Tm} {o : Oper} (hl : ∀ t, t ∈ looks ops o → tm t = tm' t) : aop P tm h o.op = aop P tm' h o.op := by
  have he : ∀ x, x ∈ o.op.operands → ev tm x = ev tm' x := fun x hx => evs_congr hl hx
  obtain ⟨dst, op, ty, pos, aft, g⟩ := o
  simp only at he ⊢
  cases op with
  | call c =>
    obtain ⟨callee, args, ts⟩ := c
    cases callee with
    | builtin b => simp only [aop]; rw [amap_congr fun x hx => he x (by simp [Op.operands, Call.operands, hx])]
    | _ => rfl
  | build t parts =>
    simp only [aop]
    rw [amap_congr (f := fun x : Nat × Operand => (x.1, ev tm x.2)) (g := fun x : Nat × Operand => (x.1, ev tm' x.2)) fun x hx => by
      rw [he x.2 (by simp only [Op.operands, List.mem_toArray, List.mem_map]; exact ⟨x, by simpa using hx, rfl⟩)]]
  | makeFunc fn fi ca =>
    simp only [aop]
    rw [amap_congr fun x hx => he x (by simp [Op.operands, hx]), amap_congr (xs := ca) fun x hx => he x (by simp [Op.operands, hx])]
  | slice t x lo hi mx =>
    simp only [aop]
    rw [he x (by simp [Op.operands]), omap_congr (xs := lo) fun y hy => he y (by simp [Op.operands, hy]), omap_congr (xs := hi) fun y hy => he y (by simp [Op.operands, hy]), omap_congr (xs := mx) fun y hy => he y (by simp [Op.operands, hy])]
  | move x => simp only [aop]; rw [he x (by simp [Op.operands])]
  | assign x => simp only [aop]; rw [he x (by simp [Op.operands])]
  | pick c x y => simp only [aop]; rw [he c (by simp [Op.operands]), he x (by simp [Op.operands]), he y (by simp [Op.operands])]
  | load t x => simp only [aop]; rw [he x (by simp [Op.operands])]
  | nilCheck x => simp only [aop]; rw [he x (by simp [Op.operands])]
  | binOp op t x y t2 => simp only [aop]; rw [he x (by simp [Op.operands]), he y (by simp [Op.operands])]
  | unOp op t x => simp only [aop]; rw [he x (by simp [Op.operands])]
  | convert s d x => simp only [aop]; rw [he x (by simp [Op.operands])]
  | makeInterface t x => simp only [aop]; rw [he x (by simp [Op.operands])]
  | fieldAddr t x f => simp only [aop]; rw [he x (by simp [Op.operands])]
  | field t x f => simp only [aop]; rw [he x (by simp [Op.operands])]
  | indexAddr t x y => simp only [aop]; rw [he x (by simp [Op.operands]), he y (by simp [Op.operands])]
  | index t x y => simp only [aop]; rw [he x (by simp [Op.operands]), he y (by simp [Op.operands])]
  | extract x i => simp only [aop]; rw [he x (by simp [Op.operands])]
  | _ => rfl
theorem aval_congr {tm tm' : Tm} {o : Oper} (hl : ∀ t, t ∈ looks ops o → tm t = tm' t) : aval P ops tm h o = aval P ops tm' h o := by
  unfold aval
  split
  · exact aop_congr hl
  · rename_i j want hg
    rw [gval_congr hl hg, aop_congr hl]
theorem aeff_congr {tm tm' : Tm} {o : Oper} (hl : ∀ t, t ∈ looks ops o → tm t = tm' t) : aeff P tm h o.op = aeff P tm' h o.op := by
  have he : ∀ x, x ∈ o.op.operands → ev tm x = ev tm' x := fun x hx => evs_congr hl hx
  obtain ⟨dst, op, ty, pos, aft, g⟩ := o
  simp only at he ⊢
  cases op with
  | call c =>
    obtain ⟨callee, args, ts⟩ := c
    cases callee with
    | builtin b =>
      cases b with
      | append =>
        simp only [aeff]
        split
        · rename_i s x t t2 h1 h2
          have hs : s ∈ args := by rw [← Array.mem_toList_iff, h1]; simp
          have hx : x ∈ args := by rw [← Array.mem_toList_iff, h1]; simp
          rw [he s (by simp [Op.operands, Call.operands, hs]), he x (by simp [Op.operands, Call.operands, hx])]
        · rfl
      | len =>
        simp only [aeff]
        split
        · rename_i x t h1 h2
          have hx : x ∈ args := by rw [← Array.mem_toList_iff, h1]; simp
          rw [he x (by simp [Op.operands, Call.operands, hx])]
        · rfl
      | clear =>
        simp only [aeff]
        split
        · rename_i x t h1 h2
          have hx : x ∈ args := by rw [← Array.mem_toList_iff, h1]; simp
          rw [he x (by simp [Op.operands, Call.operands, hx])]
        · rfl
      | copy =>
        simp only [aeff]
        split
        · rename_i s x t t2 h1 h2
          have hs : s ∈ args := by rw [← Array.mem_toList_iff, h1]; simp
          have hx : x ∈ args := by rw [← Array.mem_toList_iff, h1]; simp
          rw [he s (by simp [Op.operands, Call.operands, hs]), he x (by simp [Op.operands, Call.operands, hx])]
        · rfl
      | delete =>
        simp only [aeff]
        split
        · rename_i s x t t2 h1 h2
          have hs : s ∈ args := by rw [← Array.mem_toList_iff, h1]; simp
          have hx : x ∈ args := by rw [← Array.mem_toList_iff, h1]; simp
          rw [he s (by simp [Op.operands, Call.operands, hs]), he x (by simp [Op.operands, Call.operands, hx])]
        · rfl
      | _ => rfl
    | _ => rfl
  | lookup t m k ok => simp only [aeff]; rw [he m (by simp [Op.operands]), he k (by simp [Op.operands])]
  | mapUpdate t m k x => simp only [aeff]; rw [he m (by simp [Op.operands]), he k (by simp [Op.operands]), he x (by simp [Op.operands])]
  | convert s t x => simp only [aeff]; rw [he x (by simp [Op.operands])]
  | makeMap t r => cases r <;> rfl
  | buildSlice t l parts =>
    simp only [aeff]
    rw [amap_congr (f := fun x : Nat × Operand => (x.1, ev tm x.2)) (g := fun x : Nat × Operand => (x.1, ev tm' x.2)) fun x hx => by
      rw [he x.2 (by simp only [Op.operands, List.mem_toArray, List.mem_map]; exact ⟨x, by simpa using hx, rfl⟩)]]
  | box e x => simp only [aeff]; rw [he x (by simp [Op.operands])]
  | makeSlice t x y => simp only [aeff]; rw [he x (by simp [Op.operands]), he y (by simp [Op.operands])]
  | store t x y => simp only [aeff]; rw [he x (by simp [Op.operands]), he y (by simp [Op.operands])]
  | _ => rfl
end
end Go.Proofs.Ytgfccaaalkkdlaa.Am
