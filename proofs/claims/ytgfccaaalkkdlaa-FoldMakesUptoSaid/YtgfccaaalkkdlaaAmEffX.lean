/- The frame Am, a text ahead of the ninth: clear, copy, and strings turned to rows, told of abstract heaps. Nothing of a program stands here. -/
import Derived.Test.YtgfccaaalkkdlaaAmObj
set_option linter.unusedVariables false
set_option linter.unusedSimpArgs false
namespace Go.Proofs.Ytgfccaaalkkdlaa.Am
open Go Go.RowKit
/-- Cells written over a row's, from its begin on. -/
def aover (h : Heap) (a : Addr) (cs : List Value) : Option Heap :=
  match h.get a.block with
  | none => none
  | some k => if k.live = true ∧ k.ro = false ∧ a.off + cs.length ≤ k.cells.length ∧ cs.all one = true then some (h.store a.block k a.off cs) else none
def aclear (P : Program) (h : Heap) (t : TypeId) (x : Value) : Option (Value × Heap) :=
  match P.underlying t, x with
  | some (.slice e), .slice none _ _ => some (undef, h)
  | some (.slice e), .slice (some a) n _ => if n = 0 then some (undef, h) else (match azero P e with
    | some z => (match aover h a (Builtin.zeroCells z.cells n).toList with | some h' => some (undef, h') | none => none)
    | none => none)
  | _, _ => none
/-- The first cells of a row. -/
def afirst (h : Heap) (s n : Nat) (x : Value) : Option (List Value) :=
  match x with
  | .slice none _ _ => some []
  | .slice (some a) _ _ => if n = 0 then some [] else (match h.get a.block with
    | some k => if k.live = true ∧ a.off + n * s ≤ k.cells.length then some ((k.cells.drop a.off).take (n * s)) else none
    | none => none)
  | _ => none
def lenOfV : Value → Option Nat
  | .slice _ n _ => some n
  | _ => none
def acopy (P : Program) (h : Heap) (t : TypeId) (d x : Value) : Option (Value × Heap) :=
  match P.underlying t, d, lenOfV x with
  | some (.slice e), .slice base dn _, some m =>
    (match asz P e with
    | none => none
    | some s => (match afirst h s (Nat.min m dn) x with
      | none => none
      | some cs => (match base with
        | none => some (.int .i64 (Nat.min m dn), h)
        | some a => if Nat.min m dn = 0 then some (.int .i64 0, h) else (match aover h a cs with | some h' => some (.int .i64 (Nat.min m dn), h') | none => none))))
  | _, _, _ => none
def bytesV (s : ByteArray) : List Value := s.data.toList.map fun b => Value.int .u8 b.toNat
def runesV (s : ByteArray) : List Value := (Conv.runesFrom s s.size 0 #[]).toList
def aconvE (P : Program) (h : Heap) (s t : TypeId) (x : Value) : Option (Value × Heap) :=
  match P.underlying s, P.underlying t, x with
  | some .string, some (.slice e), .string b =>
    (match P.underlying e, asz P e with
    | some (.int .u8), some 1 => some (.slice (some ⟨h.size, 0, none⟩) b.size 0, h.new e (bytesV b))
    | some (.int .i32), some 1 => if (runesV b).length ≤ 70368744177664 ∧ (runesV b).all constOk = true ∧ (runesV b).all one = true then some (.slice (some ⟨h.size, 0, none⟩) (runesV b).length 0, h.new e (runesV b)) else none
    | _, _ => none)
  | some (.slice _), some (.slice e), .slice (some a) n c => if s = t ∧ isU8 (P.underlying e) = true ∧ 0 < n then (match h.get a.block with | some k => if k.ro = false ∧ k.live = true ∧ a.off + n ≤ k.cells.length ∧ asz P k.elem = some 1 then some (.slice (some a) n c, h) else none | none => none) else none
  | _, _, _ => none
section
variable {P : Program} {w0 w : World} {ρ : Ren} {h : Heap}
theorem over_rel (H : HRel P w0 ρ h w) {a : Addr} {L : Loc} (hL : ρ a.block = some L) {cs : List Value} {cs' : List Value} (hc : AR ρ cs.toArray cs'.toArray) {h' : Heap} (hs : aover h a cs = some h') :
    ∃ w', (storeCells ⟨L.blk, L.off + a.off, none⟩ cs').run P w = .ok () w' ∧ HRel P w0 ρ h' w' := by
  unfold aover at hs
  split at hs
  · cases hs
  rename_i k hk
  split at hs
  · rename_i hl
    obtain ⟨l1, l2, l4, l5⟩ := hl
    cases hs
    have B := H.br hk hL
    obtain ⟨_, htop, arr, tt, fr, ha, hsz, hfr⟩ := B.own l2
    have hlen : cs'.length = cs.length := by have := hc.1; simpa using this.symm
    have hone : ∀ v, v ∈ cs' → one v = true := fun v hv => by
      obtain ⟨j, hj⟩ := List.mem_iff_getElem?.1 hv
      have hjl := (List.getElem?_eq_some_iff.1 hj).1
      have := hc.2 j (cs[j]'(by omega)) v (by simp) (by simpa using hj)
      rw [this.one_eq]
      exact (List.all_eq_true.1 l5) _ (List.getElem_mem _)
    obtain ⟨w1, s1, s2, s3, s4, s5, s6, arr', s7, s8, s9⟩ := run_cells (P := P) L.blk (L.off + a.off) tt fr cs' 0 arr w hone ha (by omega) (fun j hj => hfr.2.1 j (by omega))
    refine ⟨w1, s1, H.stored hk hL l1 l2 (i := a.off) (vs := cs) (vs' := cs') l4 hlen (fun j x y hx hy => ⟨(List.all_eq_true.1 l5) x (List.mem_of_getElem? hx), hc.2 j x y (by simpa using hx) (by simpa using hy)⟩) s2 s3 s4 s5 s6
      (fun arr2 t2 fr2 h2 => by rw [ha] at h2; cases h2; exact ⟨arr', s7, s8, fun j => by rw [s9 j]; simp only [Nat.add_zero]⟩)⟩
  · cases hs
theorem AR.zeros {z : Value} (hz : AR ρ z.cells z.cells) (n : Nat) : AR ρ (Builtin.zeroCells z.cells n) (Builtin.zeroCells z.cells n) := by
  refine ⟨rfl, fun i x y hx hy => ?_⟩
  rw [hx] at hy; cases hy
  simp only [Builtin.zeroCells, Array.getElem?_map, Option.map_eq_some_iff] at hx
  obtain ⟨q, hq, rfl⟩ := hx
  have hj : i < n * z.cells.size := by have := (Array.getElem?_eq_some_iff.1 hq).1; simpa using this
  have hpos : 0 < z.cells.size := by
    rcases Nat.eq_zero_or_pos z.cells.size with h | h
    · rw [h] at hj; simp at hj
    · exact h
  have hm := Nat.mod_lt q hpos
  have e : z.cells[q % z.cells.size]! = z.cells[q % z.cells.size] := getElem!_pos z.cells _ hm
  rw [e]
  exact hz.2 (q % z.cells.size) _ _ (Array.getElem?_eq_getElem hm) (Array.getElem?_eq_getElem hm)
theorem clear_rel (H : HRel P w0 ρ h w) {t : TypeId} {x x' : Value} {ts : Array TypeId} {ty : TypeId} (ht0 : ts[0]? = some t) (hx : VR ρ x x') {u : Value} {h' : Heap} (hs : aclear P h t x = some (u, h')) :
    u = undef ∧ ∃ w', (Builtin.clear_ ts ty #[x']).run P w = .ok (.tuple #[]) w' ∧ HRel P w0 ρ h' w' := by
  unfold aclear at hs
  split at hs
  · rename_i e n c ht
    cases hs
    obtain ⟨a', c', rfl, _, _, _, hS⟩ := hx.slice_inv
    cases a' with
    | some _ => exact hS.elim
    | none => exact ⟨rfl, w, by simp [Builtin.clear_, ht0, run_underlying ht], H⟩
  · rename_i e a n c ht
    obtain ⟨a', c', rfl, hn, hnc, _, hS⟩ := hx.slice_inv
    split at hs
    · rename_i h0
      subst h0
      cases hs
      refine ⟨rfl, w, ?_, H⟩
      cases a' <;> simp [Builtin.clear_, ht0, run_underlying ht]
    · rename_i h0
      split at hs
      · rename_i z hz
        split at hs
        · rename_i h2 ho
          cases hs
          cases a' with
          | none => exact hS.elim
          | some y =>
            rcases hS with ⟨hsp, L, hL, rfl, _⟩ | hc0
            · obtain ⟨z1, z2, _⟩ := azero_rel (w := w) (ρ := ρ) hz
              obtain ⟨w', s1, s2⟩ := over_rel H hL (cs' := (Builtin.zeroCells z.cells n).toList) (by simpa using AR.zeros z2 n) ho
              refine ⟨rfl, w', ?_, s2⟩
              obtain ⟨m, rfl⟩ : ∃ m, n = m + 1 := ⟨n - 1, by omega⟩
              simp [Builtin.clear_, ht0, run_underlying ht, z1, s1]
            · omega
        · cases hs
      · cases hs
  · cases hs
theorem first_rel (H : HRel P w0 ρ h w) {s n : Nat} {x x' : Value} (hx : VR ρ x x') {cs : List Value} (hn : ∀ m, lenOfV x = some m → n ≤ m) (hs : afirst h s n x = some cs) (hl : ∃ m, lenOfV x = some m) :
    ∃ cs' : List Value, (Builtin.firstCells s n x').run P w = .ok cs'.toArray w ∧ AR ρ cs.toArray cs'.toArray := by
  unfold afirst at hs
  split at hs
  · rename_i m c
    cases hs
    obtain ⟨a', c', rfl, _, _, _, hS⟩ := hx.slice_inv
    cases a' with
    | some _ => exact hS.elim
    | none => exact ⟨[], by simp [Builtin.firstCells], AR.nil⟩
  · rename_i a m c
    obtain ⟨a', c', rfl, _, hmc, _, hS⟩ := hx.slice_inv
    have hnm := hn m rfl
    cases a' with
    | none => exact hS.elim
    | some y =>
      split at hs
      · rename_i h0; subst h0; cases hs
        exact ⟨[], by simp [Builtin.firstCells, loadCells, loadCellsFrom], AR.nil⟩
      · split at hs
        · rename_i k hk
          split at hs
          · rename_i hlv
            cases hs
            rcases hS with ⟨hsp, L, hL, rfl, _⟩ | hc0
            · obtain ⟨cs', c1, c2, c3, c4⟩ := cells_rel H hk hL hlv.1 hlv.2
              exact ⟨cs', by simpa [Builtin.firstCells] using c2 w rfl, c4⟩
            · omega
          · cases hs
        · cases hs
  · cases hs
theorem copy_rel (H : HRel P w0 ρ h w) {t : TypeId} {d d' x x' : Value} {ts : Array TypeId} {ty : TypeId} (ht0 : ts[0]? = some t) (hd : VR ρ d d') (hx : VR ρ x x') {u : Value} {h' : Heap} (hs : acopy P h t d x = some (u, h')) :
    ∃ w', (Builtin.copy_ ts ty #[d', x']).run P w = .ok u w' ∧ HRel P w0 ρ h' w' ∧ VR ρ u u := by
  unfold acopy at hs
  split at hs
  · rename_i e base dn c m ht hm
    split at hs
    · cases hs
    rename_i s hsz
    split at hs
    · cases hs
    rename_i cs hcs
    obtain ⟨cs', f1, f2⟩ := first_rel H hx (fun m' hm' => by rw [hm] at hm'; cases hm'; exact Nat.min_le_left _ _) hcs ⟨m, hm⟩
    have hlen : (Builtin.lenOf x').run P w = .ok m w := by
      cases x <;> simp only [lenOfV] at hm
      · cases hm
      · cases hm
      · cases hm
      · cases hm
      · cases hm
      · cases hm
      · cases hm; obtain ⟨a', c', rfl, _⟩ := hx.slice_inv; simp [Builtin.lenOf]
      all_goals cases hm
    have hsize : (sizeOf e).run P w = .ok s w := run_sizeOf hsz w
    obtain ⟨a', c', rfl, hn, hnc, _, hS⟩ := hd.slice_inv
    split at hs
    · rename_i hb
      cases hs
      cases a' with
      | some _ => exact hS.elim
      | none => exact ⟨w, by simp [Builtin.copy_, ht0, run_underlying ht, hlen, hsize, f1, goInt], H, VR.int _ _⟩
    · rename_i a
      cases a' with
      | none => exact hS.elim
      | some y =>
        split at hs
        · rename_i h0
          cases hs
          have hcs0 : cs' = [] := by
            have h1 := f2.1
            unfold afirst at hcs
            have : cs = [] := by
              split at hcs
              · cases hcs; rfl
              · rw [if_pos h0] at hcs; cases hcs; rfl
              · cases hcs
            subst this
            simp at h1; exact List.length_eq_zero_iff.1 h1.symm
          subst hcs0
          have f1' := f1
          rw [show Nat.min m dn = 0 from h0] at f1'
          exact ⟨w, by simp [Builtin.copy_, ht0, run_underlying ht, hlen, hsize, f1', goInt, h0, storeCells], H, VR.int _ _⟩
        · rename_i h0
          split at hs
          · rename_i h2 ho
            cases hs
            rcases hS with ⟨hsp, L, hL, rfl, _⟩ | hc0
            · obtain ⟨w', s1, s2⟩ := over_rel H hL f2 ho
              exact ⟨w', by simp [Builtin.copy_, ht0, run_underlying ht, hlen, hsize, f1, goInt, s1], s2, VR.int _ _⟩
            · have : Nat.min m dn ≤ dn := Nat.min_le_right _ _
              omega
          · cases hs
  · cases hs
theorem convE_rel (H : HRel P w0 ρ h w) {s t : TypeId} {x x' : Value} (hx : VR ρ x x') {v : Value} {h' : Heap} (hs : aconvE P h s t x = some (v, h')) :
    ∃ v' w' ρ', (convert s t x').run P w = .ok v' w' ∧ RenLe ρ ρ' ∧ HRel P w0 ρ' h' w' ∧ VR ρ' v v' := by
  unfold aconvE at hs
  split at hs
  · rename_i e b hs1 ht1
    rw [hx.string_inv]
    split at hs
    · rename_i he hz
      cases hs
      obtain ⟨i, hi, hi1⟩ := Option.map_eq_some_iff.1 hz
      have hr := run_bytes_of_string (P := P) w s t e b hs1 ht1 he
      generalize hcap : grownCap w b.size 0 e = cap at hr
      have hge : b.size ≤ cap := by rw [← hcap]; have := grownCap_ge w b.size 0 e; omega
      have hds : b.data.size = b.size := rfl
      have hsz : (bytesRow b cap).size = cap := by unfold bytesRow; rw [Array.size_append, Array.size_map, Array.size_replicate]; omega
      have hlen : (bytesV b).length = b.size := by unfold bytesV; rw [List.length_map, Array.length_toList]; rfl
      rw [hsz] at hr
      have G := (H.drawn (w.drawn + 1)).pushed (f := h.size) (cells := bytesV b) (w1 := w.drew.alloc (.cells (bytesRow b cap) e (cap, cap + 1))) (Nat.le_refl _) hi (below_alloc' w.drew _) (heap_alloc_new w.drew _) ⟨Nat.le_succ _, fun o ho => by rw [hsz] at ho; simp only; omega, ⟨i, hi, rfl⟩, fun hn => absurd hi1 hn⟩ (by rw [hlen, hsz]; exact hge) (fun j u hj => ?_)
      · refine ⟨_, _, _, hr, H.le_add _, G, VR.slice ⟨rfl, hge, .inl rfl, .inl ⟨rfl, _, Ren.add_self, rfl, ?_⟩⟩⟩
        rw [hi1, hsz]; simp
      · have hjl : j < b.data.size := by have := (List.getElem?_eq_some_iff.1 hj).1; rw [hlen] at this; exact this
        have hu : u = Value.int .u8 (b.data[j]'hjl).toNat := by
          simp only [bytesV, List.getElem?_map, Array.getElem?_toList] at hj
          rw [Array.getElem?_eq_getElem hjl] at hj
          simpa using hj.symm
        subst hu
        refine ⟨rfl, _, ?_, VR.int _ _⟩
        simp only [bytesRow]
        rw [Array.getElem?_append_left (by simpa using hjl), Array.getElem?_map, Array.getElem?_eq_getElem hjl]; rfl
    · rename_i he hz
      split at hs
      · rename_i hl
        obtain ⟨h46, hco, hone⟩ := hl
        cases hs
        have hr := run_runes_of_string (P := P) w s t e b hs1 ht1 he (by simpa [runesV] using h46)
        generalize hcap : grownCap w (Conv.runesFrom b b.size 0 #[]).size 0 e = cap at hr
        have hge : (Conv.runesFrom b b.size 0 #[]).size ≤ cap := by rw [← hcap]; have := grownCap_ge w (Conv.runesFrom b b.size 0 #[]).size 0 e; omega
        have hlen : (runesV b).length = (Conv.runesFrom b b.size 0 #[]).size := by simp [runesV]
        have hAR : AR ρ (runesV b).toArray (Conv.runesFrom b b.size 0 #[]) := by
          refine ⟨by simp [runesV], fun i x y h1 h2 => ?_⟩
          have e1 : (runesV b).toArray = Conv.runesFrom b b.size 0 #[] := by simp [runesV]
          rw [e1] at h1
          rw [h1] at h2; cases h2
          have hm : x ∈ runesV b := by simp only [runesV, Array.mem_toList_iff]; exact Array.mem_of_getElem? h1
          exact constOk_VR ((List.all_eq_true.1 hco) x hm)
        obtain ⟨ρ', r1, r2, r3⟩ := new_rel (H.drawn (w.drawn + 1)) (e := e) hz (fun v hv => (List.all_eq_true.1 hone) v hv) hAR (Array.replicate (cap - (Conv.runesFrom b b.size 0 #[]).size) (Value.int .i32 0))
        refine ⟨_, _, ρ', hr, r1, r2, VR.slice ⟨hlen, hge, .inl rfl, .inl ⟨rfl, _, r3, rfl, ?_⟩⟩⟩
        simp only [Array.size_replicate]; omega
      · cases hs
    · cases hs
  · rename_i d e a n c hs1 ht1
    split at hs
    · rename_i he
      obtain ⟨rfl, he, hn⟩ := he
      rw [hs1] at ht1; cases ht1
      split at hs
      · rename_i k hk
        split at hs
        · rename_i hro
          cases hs
          obtain ⟨a', c', rfl, hS⟩ := hx.slice_inv
          obtain ⟨_, hnc, _, hS2⟩ := hS
          cases a' with
          | none => exact hS2.elim
          | some x' =>
            rcases hS2 with ⟨hsp, L, hL, rfl, _⟩ | h0
            · obtain ⟨_, _, arr, tt, fr, ha, hsz, _⟩ := (H.br hk hL).own hro.1
              have hsh : w.shape? L.blk = some (tt, L.top) := by simp [World.shape?, ha, hsz]
              exact ⟨_, _, ρ, by simp [convert, run_underlying hs1, run_underlying (isU8_eq he), markStringish, hsh], RenLe.refl _, H.frozen hk hL hro.1 (by
                obtain ⟨i', e1, e2⟩ := (H.br hk hL).info
                have e3 := hro.2.2.2
                simp only [asz, e1, Option.map_some, Option.some.injEq] at e3
                omega), hx⟩
            · omega
        · cases hs
      · cases hs
    · cases hs
  · cases hs
end
end Go.Proofs.Ytgfccaaalkkdlaa.Am
