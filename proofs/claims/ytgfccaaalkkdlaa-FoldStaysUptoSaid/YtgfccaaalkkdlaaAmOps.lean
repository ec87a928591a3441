/- The frame Am, third text: the operations that only reckon or read, told of abstract values, and that a world's run of them agrees. Nothing of a program stands here. -/
import Derived.Test.YtgfccaaalkkdlaaAmHeap
set_option linter.unusedVariables false
set_option linter.unusedSimpArgs false
namespace Go.Proofs.Ytgfccaaalkkdlaa.Am
open Go Go.RowKit

abbrev Tm := Nat → Value
def ev (tm : Tm) : Operand → Value
  | .tmp t => tm t
  | .const v => v
  | .global g => .pointer (some ⟨g, 0, none⟩)
  | .func f => .func (.func f) #[] #[]

/-- Constants: values that lead nowhere. -/
def constOk : Value → Bool
  | .bool _ => true
  | .int _ _ => true
  | .string _ => true
  | .pointer none => true
  | .nilFunc => true
  | .nilIface => true
  | .map none => true
  | .slice none 0 0 => true
  | .iface _ (.bool _) => true
  | .iface _ (.int _ _) => true
  | .iface _ (.string _) => true
  | .tuple xs => xs.size == 0
  | _ => false
theorem constOk_VR {ρ : Ren} {v : Value} (h : constOk v = true) : VR ρ v v := by
  unfold constOk at h
  split at h
  · exact VR.bool _
  · exact VR.int _ _
  · exact VR.string _
  · exact VR.nilptr
  · exact VR.nilFunc
  · exact VR.nilIface
  · exact VR.nilmap
  · exact VR.nilslice
  · exact VR.iface (VR.bool _)
  · exact VR.iface (VR.int _ _)
  · exact VR.iface (VR.string _)
  · rename_i xs
    have : xs = #[] := by simpa using h
    subst this
    exact VR.tuple AR.nil
  · cases h

def oprOk (P : Program) (n : Nat) : Operand → Bool
  | .tmp t => t < n
  | .const v => constOk v
  | .global g => g < P.globals.size
  | .func _ => true

structure TR (ρ : Ren) (n : Nat) (tm : Tm) (a : Act) : Prop where
  size : a.tmps.size = n
  vals : ∀ t, t < n → VR ρ (tm t) (a.tmps.getD t undef)

section
variable {P : Program} {w0 w : World} {ρ : Ren} {h : Heap} {n : Nat} {tm : Tm} {a : Act}
theorem TR.mono {ρ' : Ren} (T : TR ρ n tm a) (hρ : RenLe ρ ρ') : TR ρ' n tm a := ⟨T.size, fun t ht => (T.vals t ht).mono hρ⟩
theorem ev_rel (H : HRel P w0 ρ h w) (T : TR ρ n tm a) {x : Operand} (hx : oprOk P n x = true) : VR ρ (ev tm x) (a.eval x) := by
  cases x with
  | tmp t => exact T.vals t (by simpa [oprOk] using hx)
  | const v => exact constOk_VR hx
  | global g =>
    obtain ⟨L, h1, h2, h3⟩ := H.globs g (by simpa [oprOk] using hx)
    exact VR.ptr ⟨rfl, L, h1, by simp [h2, h3]⟩
  | func f => exact VR.func rfl AR.nil AR.nil
end

def isAggD : TypeDesc → Bool
  | .struct _ => true
  | .array _ _ => true
  | _ => false
def asz (P : Program) (t : TypeId) : Option Nat := (P.info? t).map (·.size)
theorem run_isAgg {P : Program} {t : TypeId} {d : TypeDesc} (ht : P.underlying t = some d) (w : World) : (isAgg t).run P w = .ok (isAggD d) w := by
  simp only [isAgg, Sem.run_bind, run_underlying ht, Result.andThen_ok]
  cases d <;> rfl
theorem run_sizeOf {P : Program} {t : TypeId} {s : Nat} (ht : asz P t = some s) (w : World) : (sizeOf t).run P w = .ok s w := by
  obtain ⟨i, hi, rfl⟩ := Option.map_eq_some_iff.1 ht
  simp [sizeOf, typeInfo, hi]
theorem add_plain' (b o k : Nat) : (⟨b, o, none⟩ : Addr).add k = ⟨b, o + k, none⟩ := by unfold Addr.add; split <;> simp_all

/-! ### Reading -/
def aload (P : Program) (h : Heap) (t : TypeId) (a : Addr) : Option Value :=
  match h.get a.block with
  | none => none
  | some k =>
    if k.live = true then
      match P.underlying t with
      | none => none
      | some d =>
        if isAggD d = true then
          match asz P t with
          | none => none
          | some s => if a.off + s ≤ k.cells.length then some (.agg ((k.cells.drop a.off).take s).toArray) else none
        else k.cells[a.off]?
    else none
section
variable {P : Program} {w0 w : World} {ρ : Ren} {h : Heap}
theorem load_rel (H : HRel P w0 ρ h w) {t : TypeId} {a a' : Addr} (ha : PR ρ a a') {v : Value} (hv : aload P h t a = some v) :
    ∃ v', (loadVar t a').run P w = .ok v' w ∧ VR ρ v v' := by
  obtain ⟨hs, L, hL, rfl⟩ := ha
  unfold aload at hv
  split at hv
  · cases hv
  rename_i k hk
  split at hv
  · rename_i hl
    have B := H.br hk hL
    split at hv
    · cases hv
    rename_i d hd
    split at hv
    · rename_i hagg
      split at hv
      · cases hv
      rename_i s hsz
      split at hv
      · rename_i hle
        cases hv
        have rd : ∀ j, j < s → ∃ v', w.cell? ((⟨L.blk, L.off + a.off, none⟩ : Addr).add j) = some v' ∧ ∀ u, k.cells[a.off + j]? = some u → VR ρ u v' := fun j hj => by
          obtain ⟨_, v', h2, h3⟩ := B.reads hl (a.off + j) (k.cells[a.off + j]'(by omega)) (List.getElem?_eq_getElem _)
          refine ⟨v', by rw [add_plain', ← h2]; simp only [Nat.add_assoc], fun u hu => ?_⟩
          rw [List.getElem?_eq_getElem (by omega)] at hu; cases hu; exact h3
        let f : Nat → Value := fun j => (w.cell? ((⟨L.blk, L.off + a.off, none⟩ : Addr).add j)).getD undef
        have hf : ∀ j, j < s → w.cell? ((⟨L.blk, L.off + a.off, none⟩ : Addr).add j) = some (f j) := fun j hj => by
          obtain ⟨v', h1, _⟩ := rd j hj
          simp only [f, h1, Option.getD_some]
        have hrun := run_loadCells (P := P) (w := w) (⟨L.blk, L.off + a.off, none⟩ : Addr) s f hf
        refine ⟨.agg ((List.range s).map f).toArray, by simp only [loadVar, Sem.run_bind, run_isAgg hd, hagg, Result.andThen_ok, if_true, run_sizeOf hsz, hrun, Sem.run_pure], VR.agg ⟨by simp; omega, fun i x y hx hy => ?_⟩⟩
        have hi : i < s := by
          have := (Array.getElem?_eq_some_iff.1 hx).1
          simp at this; omega
        obtain ⟨v', h1, h2⟩ := rd i hi
        have hx' : k.cells[a.off + i]? = some x := by
          rw [List.getElem?_toArray, part_get hi] at hx; exact hx
        have hy' : y = v' := by
          simp [hi] at hy
          have := hf i hi
          rw [h1] at this; cases this; exact hy.symm
        subst hy'
        exact h2 x hx'
      · cases hv
    · rename_i hagg
      obtain ⟨_, v', h2, h3⟩ := B.reads hl a.off v hv
      refine ⟨v', ?_, h3⟩
      simp only [loadVar, Sem.run_bind, run_isAgg hd, Result.andThen_ok, if_neg hagg, run_load, h2]
  · cases hv
end

/-! ### Slicing, indexing, fields -/
def boundOf : Option Value → Nat → Nat → Option Nat
  | none, d, _ => some d
  | some (.int _ i), _, m => if 0 ≤ i ∧ i ≤ (m : Int) then some i.toNat else none
  | some _, _, _ => none
def OR (ρ : Ren) : Option Value → Option Value → Prop
  | none, none => True
  | some x, some y => VR ρ x y
  | _, _ => False
theorem boundOf_le {x : Option Value} {d m r : Nat} (hr : boundOf x d m = some r) (hd : d ≤ m) : r ≤ m := by
  unfold boundOf at hr
  split at hr
  · cases hr; exact hd
  · split at hr
    · cases hr; omega
    · cases hr
  · cases hr
theorem boundOf_some_le {z : Value} {d m r : Nat} (hr : boundOf (some z) d m = some r) : r ≤ m := by
  unfold boundOf at hr
  split at hr
  · rename_i e; cases e
  · split at hr
    · cases hr; omega
    · cases hr
  · cases hr
def aslice (P : Program) (h : Heap) (t : TypeId) (x : Value) (lo hi mx : Option Value) : Option Value :=
  match P.underlying t, x with
  | some .string, .string s =>
    match mx with
    | some _ => none
    | none =>
      match boundOf hi s.size s.size with
      | none => none
      | some H => match boundOf lo 0 H with
        | none => none
        | some L => some (.string (s.extract L H))
  | some (.slice e), .slice none n _ =>
    if n = 0 ∧ (asz P e).isSome = true then
      match boundOf mx 0 0 with
      | none => none
      | some _ => match boundOf hi 0 0 with
        | none => none
        | some _ => match boundOf lo 0 0 with
          | none => none
          | some _ => if mx.isSome = true ∧ hi.isSome = false then none else some (.slice none 0 0)
    else none
  | some (.slice e), .slice (some a) n c =>
    match h.get a.block, asz P e with
    | some k, some s =>
      if asz P k.elem = some s then
        match boundOf mx (if c = 0 then n else max n (c - 1)) (if c = 0 then n else max n (c - 1)) with
        | none => none
        | some m => match boundOf hi n m with
          | none => none
          | some H => match boundOf lo 0 H with
            | none => none
            | some L => if mx.isSome = true ∧ hi.isSome = false then none else some (.slice (some ⟨a.block, a.off + L * s, none⟩) (H - L) (if mx.isSome = true then m - L + 1 else if c = 0 then 0 else c - 1 - L + 1))
      else none
    | _, _ => none
  | _, _ => none

section
variable {P : Program} {w0 w : World} {ρ : Ren} {h : Heap}
theorem bound_rel {x : Value} {x' : Value} (hx : VR ρ x x') {d m m' r : Nat} (hm : m ≤ m') (hr : boundOf (some x) d m = some r) (code : BoundsCode) :
    (Instr.sliceBound x' m' code).run P w = .ok r w := by
  unfold boundOf at hr
  split at hr
  · rename_i e; cases e
  · rename_i k i e
    cases e
    split at hr
    · rename_i hb
      cases hr
      rw [hx.int_inv]
      simp only [Instr.sliceBound, asIntOf, Sem.run_bind, Sem.run_pure, Result.andThen_ok]
      rw [if_pos ⟨hb.1, by omega⟩]; rfl
    · cases hr
  · cases hr
theorem bounds_rel {lo hi mx lo' hi' mx' : Option Value} (h1 : OR ρ lo lo') (h2 : OR ρ hi hi') (h3 : OR ρ mx mx') {len capA cap : Nat} (hc : capA ≤ cap) {isSlice : Bool}
    {m H L : Nat} (hm : boundOf mx capA capA = some m) (hH : boundOf hi len m = some H) (hL : boundOf lo 0 H = some L) (hmh : ¬ (mx.isSome = true ∧ hi.isSome = false)) :
    (Instr.sliceBounds isSlice len cap lo' hi' mx').run P w = .ok (L, H, if mx.isSome = true then m else cap) w := by
  have e3 : mx'.isSome = mx.isSome := by cases mx <;> cases mx' <;> first | rfl | exact h3.elim
  have hmc : m ≤ cap := Nat.le_trans (boundOf_le hm (Nat.le_refl _)) hc
  cases mx with
  | none =>
    cases mx' with
    | some _ => exact h3.elim
    | none =>
      cases hm
      cases hi with
      | none =>
        cases hi' with
        | some _ => exact h2.elim
        | none =>
          cases hH
          cases lo with
          | none => cases lo' with
            | some _ => exact h1.elim
            | none => cases hL; simp [Instr.sliceBounds]
          | some l => cases lo' with
            | none => exact h1.elim
            | some l' => simp [Instr.sliceBounds, bound_rel (P := P) (w := w) h1 (Nat.le_refl _) hL]
      | some x => cases hi' with
        | none => exact h2.elim
        | some x' =>
          have hh := fun code => bound_rel (P := P) (w := w) h2 hc hH code
          cases lo with
          | none => cases lo' with
            | some _ => exact h1.elim
            | none => cases hL; simp [Instr.sliceBounds, hh]
          | some l => cases lo' with
            | none => exact h1.elim
            | some l' => simp [Instr.sliceBounds, hh, bound_rel (P := P) (w := w) h1 (Nat.le_refl _) hL]
  | some y =>
    cases mx' with
    | none => exact h3.elim
    | some y' =>
      have hy := fun code => bound_rel (P := P) (w := w) h3 hc hm code
      cases hi with
      | none => exact absurd ⟨rfl, rfl⟩ hmh
      | some x => cases hi' with
        | none => exact h2.elim
        | some x' =>
          have hh := fun code => bound_rel (P := P) (w := w) h2 (Nat.le_refl m) hH code
          cases lo with
          | none => cases lo' with
            | some _ => exact h1.elim
            | none => cases hL; simp [Instr.sliceBounds, hy, hh]
          | some l => cases lo' with
            | none => exact h1.elim
            | some l' => simp [Instr.sliceBounds, hy, hh, bound_rel (P := P) (w := w) h1 (Nat.le_refl _) hL]

theorem slice_rel (H : HRel P w0 ρ h w) {t : TypeId} {x x' : Value} (hx : VR ρ x x') {lo hi mx lo' hi' mx' : Option Value} (h1 : OR ρ lo lo') (h2 : OR ρ hi hi') (h3 : OR ρ mx mx')
    {v : Value} (hv : aslice P h t x lo hi mx = some v) : ∃ v', (Instr.sliceAt t x' lo' hi' mx').run P w = .ok v' w ∧ VR ρ v v' := by
  unfold aslice at hv
  split at hv
  · rename_i s hd
    split at hv
    · cases hv
    cases mx' with
    | some _ => exact h3.elim
    | none =>
      split at hv
      · cases hv
      rename_i Hh hH
      split at hv
      · cases hv
      rename_i L hL
      cases hv
      rw [hx.string_inv]
      have hb := bounds_rel (P := P) (w := w) (isSlice := false) (mx := none) (mx' := none) h1 h2 trivial (Nat.le_refl s.size) rfl hH hL (by simp)
      refine ⟨_, ?_, VR.string _⟩
      simp [Instr.sliceAt, Instr.slice, run_underlying hd, hb]
  · rename_i e n c hd
    split at hv
    · rename_i hn
      obtain ⟨hn, hsome⟩ := hn
      split at hv
      · cases hv
      rename_i m hm
      split at hv
      · cases hv
      rename_i Hh hH
      split at hv
      · cases hv
      rename_i L hL
      split at hv
      · cases hv
      rename_i hmh
      cases hv
      subst hn
      obtain ⟨a', c', rfl, hS⟩ := hx.slice_inv
      cases a' with
      | some _ => exact hS.2.2.2.elim
      | none =>
        have hc0 : c' = 0 := hS.2.2.2
        subst hc0
        obtain rfl : m = 0 := by have := boundOf_le hm (Nat.le_refl _); omega
        obtain rfl : Hh = 0 := by have := boundOf_le hH (Nat.le_refl _); omega
        have hb := bounds_rel (P := P) (w := w) (isSlice := true) h1 h2 h3 (Nat.le_refl 0) hm hH hL hmh
        obtain rfl : L = 0 := by have := boundOf_le hL (Nat.le_refl _); omega
        obtain ⟨s, hsz⟩ := Option.isSome_iff_exists.1 hsome
        refine ⟨_, by simp [Instr.sliceAt, Instr.slice, run_underlying hd, hb, run_sizeOf hsz], VR.nilslice⟩
    · cases hv
  · rename_i e a n c hd
    split at hv
    · rename_i k s hk hs
      split at hv
      · rename_i hke
        split at hv
        · cases hv
        rename_i m hm
        split at hv
        · cases hv
        rename_i Hh hH
        split at hv
        · cases hv
        rename_i L hL
        split at hv
        · cases hv
        rename_i hmh
        cases hv
        obtain ⟨a', c', rfl, hn, hnc, hcc, hS⟩ := hx.slice_inv
        cases a' with
        | none => exact hS.elim
        | some x' =>
          have htop : (if c = 0 then n else max n (c - 1)) ≤ c' := by split <;> omega
          have hb := bounds_rel (P := P) (w := w) (isSlice := true) h1 h2 h3 htop hm hH hL hmh
          have hLH : L ≤ Hh := boundOf_le hL (Nat.zero_le _)
          have hrun := fun hrun => (show (Instr.sliceAt t (.slice (some x') n c') lo' hi' mx').run P w = .ok (.slice (if (if mx.isSome = true then m else c') = L then some x' else some (x'.add (L * s))) (Hh - L) ((if mx.isSome = true then m else c') - L)) w from hrun)
          refine ⟨_, hrun (by simp [Instr.sliceAt, Instr.slice, run_underlying hd, hb, run_sizeOf hs]), VR.slice ?_⟩
          have hmc : m ≤ c' := Nat.le_trans (boundOf_le hm (Nat.le_refl _)) htop
          have hHm : Hh ≤ (if mx.isSome = true then m else c') := by
            cases mx with
            | some y =>
              cases hi with
              | none => exact absurd ⟨rfl, rfl⟩ hmh
              | some z => exact boundOf_some_le hH
            | none =>
              cases hi with
              | none => cases hH; exact hnc
              | some z => exact Nat.le_trans (boundOf_some_le hH) hmc
          refine ⟨rfl, by omega, ?_, ?_⟩
          · cases mx with
            | some y => right; simp only [Option.isSome_some, if_true]
            | none =>
              simp only [Option.isSome_none, Bool.false_eq_true, if_false]
              by_cases hc0 : c = 0
              · left; rw [if_pos hc0]
              · right; rw [if_neg hc0]
                rcases hcc with h0 | h0
                · exact absurd h0 hc0
                · rw [h0]; rfl
          · rcases hS with ⟨hsp, L0, hL0, hx', hroom⟩ | hex
            · by_cases hml : (if mx.isSome = true then m else c') = L
              · rw [if_pos hml]; right; omega
              · rw [if_neg hml]; left
                refine ⟨rfl, L0, hL0, ?_, ?_⟩
                · subst hx'; rw [add_plain']; simp only [Addr.mk.injEq, and_true, true_and]; omega
                · have B := H.br hk hL0
                  obtain ⟨i, hi1, hi2⟩ := B.info
                  have hsz : L0.sz = s := by
                    simp only [asz, hi1, Option.map_some, Option.some.injEq] at hke
                    omega
                  have hle : L ≤ (if mx.isSome = true then m else c') := by omega
                  have hcap : (if mx.isSome = true then m else c') ≤ c' := by split <;> omega
                  generalize (if mx.isSome = true then m else c') = M at *
                  have h4 : L * s + (M - L) * L0.sz = M * s := by rw [hsz, ← Nat.add_mul]; congr 1; omega
                  have h5 : M * s ≤ c' * L0.sz := by rw [hsz]; exact Nat.mul_le_mul_right _ hcap
                  simp only
                  omega
            · have hcap : (if mx.isSome = true then m else c') ≤ c' := by split <;> omega
              have h0 : (if mx.isSome = true then m else c') = 0 := by omega
              have hL0 : L = 0 := by omega
              rw [h0, hL0]; right; rfl
      · cases hv
    · cases hv
  · cases hv
end
end Go.Proofs.Ytgfccaaalkkdlaa.Am
