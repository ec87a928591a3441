/- The texts of this seat, one behind another (part 5 of 25): the frame (an abstract machine), the contracts of functions, the laws. -/
import Derived.Test.YthmpaddhmgnkbaaDoorZ4
import Derived.Lib.AppendStr
section
/- The frame Am, eighth text: append, and all operations that make or write memory as one function (aeff); a world's run of them agrees. Nothing of a program stands here. -/
set_option linter.unusedVariables false
set_option linter.unusedSimpArgs false
namespace Go.Proofs.YthmpaddhmgnkbaaDoor.Am
open Go Go.RowKit

def isRowD : TypeDesc → Bool
  | .slice _ => true
  | .string => true
  | _ => false
theorem isRowD_eq {d : TypeDesc} (h : isRowD d = true) : (∃ e, d = .slice e) ∨ d = .string := by
  cases d <;> first | exact .inl ⟨_, rfl⟩ | exact .inr rfl | (cases h; done)
/-- A type whose zero value is as large as its values. -/
def zeroFits (i : TypeInfo) : Bool :=
  match i.zero with
  | some z => z.cells.size == i.size
  | none => false
theorem zeroFits_eq {i : TypeInfo} (h : zeroFits i = true) : ∃ z, i.zero = some z ∧ z.cells.size = i.size := by
  unfold zeroFits at h
  split at h
  · rename_i z hz; exact ⟨z, hz, by simpa using h⟩
  · cases h
def bytesOf' (b : ByteArray) : List Value := b.data.toList.map fun x => .int .u8 x.toNat
/-- What is appended: how many elements, their cells. -/
def anews (h : Heap) (s : Nat) : Value → Option (Nat × List Value)
  | .slice none n _ => if n = 0 then some (0, []) else none
  | .slice (some a) n _ => (match h.get a.block with
    | none => none
    | some k => if k.live = true ∧ a.off + n * s ≤ k.cells.length then some (n, (k.cells.drop a.off).take (n * s)) else none)
  | .string b => if s = 1 then some (b.size, bytesOf' b) else none
  | _ => none
def aappend (P : Program) (h : Heap) (t t2 : TypeId) (s x : Value) : Option (Value × Heap) :=
  match P.underlying t, P.underlying t2 with
  | some (.slice e), some d2 =>
    (match P.info? e with
    | none => none
    | some i =>
      if isRowD d2 = true ∧ 0 < i.bytes ∧ zeroFits i = true then
        (match anews h i.size x with
        | none => none
        | some (m, news) =>
          match s with
          | .slice none n _ =>
            if n = 0 then (if m = 0 then some (.slice none 0 0, h) else if m * i.bytes ≤ 140737488355328 then some (.slice (some ⟨h.size, 0, none⟩) m 0, h.new e news) else none) else none
          | .slice (some a) n c =>
            if m = 0 then some (.slice (some a) n c, h) else
            (match h.get a.block with
            | none => none
            | some k =>
              if k.live = true ∧ a.off + n * i.size ≤ k.cells.length ∧ asz P k.elem = some i.size ∧ (n + m) * i.bytes ≤ 140737488355328 then
                (if c = n + 1 then some (.slice (some ⟨h.size, 0, none⟩) (n + m) 0, h.new e ((k.cells.drop a.off).take (n * i.size) ++ news))
                 else if k.ro = false then some (.slice (some ⟨h.size, 0, none⟩) (n + m) 0, h.grow a.block k a.off (n * i.size) news) else none)
              else none)
          | _ => none)
      else none)
  | _, _ => none

section
variable {P : Program} {w0 w : World} {ρ : Ren} {h : Heap}
/-- The cells of a slice, read in any world that has the same memory. -/
theorem cells_rel (H : HRel P w0 ρ h w) {b : Nat} {k : Blk} {L : Loc} (hk : h.get b = some k) (hL : ρ b = some L) (hl : k.live = true) {o c : Nat} (hoc : o + c ≤ k.cells.length) :
    ∃ cs : List Value, cs.length = c ∧ (∀ w', w'.heap = w.heap → (loadCells ⟨L.blk, L.off + o, none⟩ c).run P w' = .ok cs.toArray w') ∧ (∀ v, v ∈ (k.cells.drop o).take c → one v = true) ∧ AR ρ ((k.cells.drop o).take c).toArray cs.toArray := by
  have B := H.br hk hL
  have rd : ∀ j, j < c → ∃ v', w.cell? ((⟨L.blk, L.off + o, none⟩ : Addr).add j) = some v' ∧ one (k.cells.getD (o + j) undef) = true ∧ VR ρ (k.cells.getD (o + j) undef) v' := fun j hj => by
    obtain ⟨h1, v', h2, h3⟩ := B.reads hl (o + j) (k.cells[o + j]'(by omega)) (List.getElem?_eq_getElem _)
    have hd : k.cells.getD (o + j) undef = k.cells[o + j]'(by omega) := by simp [List.getD_eq_getElem?_getD, List.getElem?_eq_getElem (show o + j < k.cells.length by omega)]
    rw [hd]
    exact ⟨v', by rw [add_plain', ← h2]; simp only [Nat.add_assoc], h1, h3⟩
  let f : Nat → Value := fun j => (w.cell? ((⟨L.blk, L.off + o, none⟩ : Addr).add j)).getD undef
  have hf : ∀ j, j < c → w.cell? ((⟨L.blk, L.off + o, none⟩ : Addr).add j) = some (f j) := fun j hj => by
    obtain ⟨v', h1, _⟩ := rd j hj
    simp only [f, h1, Option.getD_some]
  refine ⟨(List.range c).map f, by simp, fun w' hw => ?_, fun v hv => ?_, by simp; omega, fun i x y hx hy => ?_⟩
  · have := run_loadCells (P := P) (w := w') (⟨L.blk, L.off + o, none⟩ : Addr) c f (fun j hj => by rw [← hf j hj]; simp only [World.cell?, hw])
    exact this
  · obtain ⟨j, hj⟩ := List.mem_iff_getElem?.1 hv
    have hjc : j < c := by have := (List.getElem?_eq_some_iff.1 hj).1; simp at this; omega
    rw [part_get hjc] at hj
    have := (B.reads hl (o + j) v hj).1
    exact this
  · have hi : i < c := by have := (Array.getElem?_eq_some_iff.1 hx).1; simp at this; omega
    obtain ⟨v', h1, h2, h3⟩ := rd i hi
    rw [List.getElem?_toArray, part_get hi] at hx
    have hd : k.cells.getD (o + i) undef = x := by simp [List.getD_eq_getElem?_getD, hx]
    rw [hd] at h3
    have hy' : y = v' := by
      simp [hi] at hy
      have := hf i hi
      rw [h1] at this; cases this; exact hy.symm
    rw [hy']; exact h3
theorem news_rel (H : HRel P w0 ρ h w) {s : Nat} {x x' : Value} (hx : VR ρ x x') {m : Nat} {news : List Value} (hn : anews h s x = some (m, news)) :
    news.length = m * s ∧ (Builtin.lenOf x').run P w = .ok m w ∧ (∀ v, v ∈ news → one v = true) ∧ ∃ cs : List Value, cs.length = m * s ∧ (∀ w', w'.heap = w.heap → (Builtin.firstCells s m x').run P w' = .ok cs.toArray w') ∧ AR ρ news.toArray cs.toArray := by
  unfold anews at hn
  split at hn
  · rename_i n c
    split at hn
    · rename_i h0
      subst h0
      cases hn
      obtain ⟨a', c', rfl, hS⟩ := hx.slice_inv
      cases a' with
      | some _ => exact hS.2.2.2.elim
      | none => exact ⟨by simp, by simp [Builtin.lenOf], by simp, [], by simp, fun w' _ => by simp [Builtin.firstCells], AR.nil⟩
    · cases hn
  · rename_i a n c
    split at hn
    · cases hn
    rename_i k hk
    split at hn
    · rename_i hl
      cases hn
      obtain ⟨a', c', rfl, hn, hnc, _, hS⟩ := hx.slice_inv
      have hlen : ((k.cells.drop a.off).take (m * s)).length = m * s := by simp; omega
      cases a' with
      | none => exact hS.elim
      | some x' =>
        rcases hS with ⟨hsp, L, hL, rfl, _⟩ | h0
        · obtain ⟨cs, c1, c2, c3, c4⟩ := cells_rel H hk hL hl.1 hl.2
          exact ⟨hlen, by simp [Builtin.lenOf], c3, cs, c1, fun w' hw => by simpa [Builtin.firstCells] using c2 w' hw, c4⟩
        · have hm : m = 0 := by omega
          subst hm
          exact ⟨by simp, by simp [Builtin.lenOf], by simp, [], by simp, fun w' _ => by simp [Builtin.firstCells, loadCells, loadCellsFrom], by simpa using AR.nil⟩
    · cases hn
  · rename_i b
    split at hn
    · rename_i h1
      subst h1
      cases hn
      rw [hx.string_inv]
      have hlen : (bytesOf' b).length = b.size * 1 := by simp only [bytesOf', List.length_map, Array.length_toList, Nat.mul_one]; rfl
      refine ⟨hlen, by simp [Builtin.lenOf], fun v hv => ?_, bytesOf' b, hlen, fun w' _ => ?_, rfl, fun i x y hx hy => ?_⟩
      · simp only [bytesOf', List.mem_map] at hv
        obtain ⟨u, _, rfl⟩ := hv; rfl
      · have := Lib.run_firstCells_string (P := P) w' 1 b
        exact this
      · rw [hx] at hy; cases hy
        have hm := Array.mem_of_getElem? hx
        simp only [bytesOf', List.mem_toArray, List.mem_map] at hm
        obtain ⟨u, _, rfl⟩ := hm
        exact VR.int _ _
    · cases hn
  · cases hn

theorem zeros_size (z : Array Value) (k : Nat) : (Builtin.zeroCells z k).size = k * z.size := by simp [Builtin.zeroCells]
/-- An append that moves: what the run comes to. -/
theorem run_append_new {t t2 ty e : TypeId} {i : TypeInfo} {z : Value} {d2 : TypeDesc} (ht : P.underlying t = some (.slice e)) (ht2 : P.underlying t2 = some d2) (hd2 : isRowD d2 = true) (hi : P.info? e = some i) (hz : i.zero = some z)
    {base : Option Addr} {n c m : Nat} {x' : Value} {olds news : Array Value} (hm : (Builtin.lenOf x').run P w = .ok m w) (hold : (Builtin.firstCells i.size n (.slice base n c)).run P w.drew = .ok olds w.drew)
    (hnew : (Builtin.firstCells i.size m x').run P w.drew = .ok news w.drew) (hg : c < n + m) (h63 : ((n + m : Nat) : Int) ≤ 9223372036854775807) (hfit : Builtin.nextslicecap (n + m) c * i.bytes ≤ 281474976710656) :
    (Builtin.append_ #[t, t2] ty #[.slice base n c, x']).run P w =
      .ok (.slice (some ⟨w.heap.size, 0, none⟩) (n + m) (grownCap w (n + m) c e)) (w.drew.alloc (.cells (olds ++ news ++ Builtin.zeroCells z.cells (grownCap w (n + m) c e - (n + m))) e)) := by
  have hn : ¬ (n + m ≤ c) := by omega
  have h63' : ¬ (9223372036854775807 < ((n : Int) + (m : Int))) := by omega
  have h48' : ¬ (281474976710656 < Builtin.nextslicecap (n + m) c * i.bytes) := by omega
  rcases isRowD_eq hd2 with ⟨e2, rfl⟩ | rfl <;>
    simp [Builtin.append_, run_underlying ht, run_underlying ht2, sizeOf, typeInfo, zeroValue, hi, hz, hm, hn, h63', h48', Question.forced, hold, hnew, newRow, grownCap]
/-- An append where there is room. -/
theorem run_append_in {t t2 ty e : TypeId} {i : TypeInfo} {d2 : TypeDesc} (ht : P.underlying t = some (.slice e)) (ht2 : P.underlying t2 = some d2) (hd2 : isRowD d2 = true) (hi : P.info? e = some i)
    {a : Addr} {n c m : Nat} {x' : Value} {news : Array Value} (hm : (Builtin.lenOf x').run P w = .ok m w) (hnew : (Builtin.firstCells i.size m x').run P w = .ok news w) (hg : n + m ≤ c)
    {w1 : World} (hst : (storeCells (a.add (n * i.size)) news.toList).run P w = .ok () w1) :
    (Builtin.append_ #[t, t2] ty #[.slice (some a) n c, x']).run P w = .ok (.slice (some a) (n + m) c) w1 := by
  rcases isRowD_eq hd2 with ⟨e2, rfl⟩ | rfl <;>
    simp [Builtin.append_, run_underlying ht, run_underlying ht2, sizeOf, typeInfo, hi, hm, hg, hnew, hst]
theorem run_append_in_nil {t t2 ty e : TypeId} {i : TypeInfo} {d2 : TypeDesc} (ht : P.underlying t = some (.slice e)) (ht2 : P.underlying t2 = some d2) (hd2 : isRowD d2 = true) (hi : P.info? e = some i)
    {n c m : Nat} {x' : Value} {news : Array Value} (hm : (Builtin.lenOf x').run P w = .ok m w) (hnew : (Builtin.firstCells i.size m x').run P w = .ok news w) (hg : n + m ≤ c) :
    (Builtin.append_ #[t, t2] ty #[.slice none n c, x']).run P w = .ok (.slice none (n + m) c) w := by
  rcases isRowD_eq hd2 with ⟨e2, rfl⟩ | rfl <;>
    simp [Builtin.append_, run_underlying ht, run_underlying ht2, sizeOf, typeInfo, hi, hm, hg, hnew]

theorem append_rel (H : HRel P w0 ρ h w) {t t2 ty : TypeId} {s s' x x' : Value} (hs : VR ρ s s') (hx : VR ρ x x') {v : Value} {h' : Heap} (hv : aappend P h t t2 s x = some (v, h')) :
    ∃ v' w' ρ', (Builtin.append_ #[t, t2] ty #[s', x']).run P w = .ok v' w' ∧ RenLe ρ ρ' ∧ HRel P w0 ρ' h' w' ∧ VR ρ' v v' := by
  unfold aappend at hv
  split at hv
  · rename_i e d2 hd hd2
    split at hv
    · cases hv
    rename_i i hi
    split at hv
    · rename_i hc
      obtain ⟨c1, c2, c3⟩ := hc
      obtain ⟨z, hz, hzs⟩ := zeroFits_eq c3
      split at hv
      · cases hv
      rename_i m news hn
      obtain ⟨n1, n2, n3, cs, n4, n5, n6⟩ := news_rel H hx hn
      have hsz : asz P e = some i.size := by simp [asz, hi]
      have hbig : ∀ q, q * i.bytes ≤ 140737488355328 → q ≤ 140737488355328 := fun q hq => Nat.le_trans (Nat.le_mul_of_pos_right q c2) hq
      have room : ∀ (q l g : Nat), l = q * i.size → q ≤ g → g * i.size ≤ l + (Builtin.zeroCells z.cells (g - q)).size := fun q l g hl hg => by
        rw [zeros_size, hzs, hl, ← Nat.add_mul]; exact Nat.mul_le_mul_right _ (by omega)
      split at hv
      · rename_i n c
        split at hv
        · rename_i hn0
          subst hn0
          obtain ⟨a', c', rfl, hS⟩ := hs.slice_inv
          cases a' with
          | some _ => exact hS.2.2.2.elim
          | none =>
            have hc0 : c' = 0 := hS.2.2.2
            subst hc0
            split at hv
            · rename_i hm0
              subst hm0
              cases hv
              exact ⟨_, w, ρ, run_append_in_nil hd hd2 c1 hi n2 (n5 w rfl) (by omega), RenLe.refl _, H, VR.nilslice⟩
            · rename_i hm0
              split at hv
              · rename_i hb
                cases hv
                have hrun := run_append_new (P := P) (w := w) (ty := ty) (base := none) (n := 0) (c := 0) (olds := #[]) hd hd2 c1 hi hz n2 (by simp [Builtin.firstCells]) (n5 w.drew rfl) (by omega)
                  (by have := hbig m hb; omega) (by rw [Nat.zero_add, nextslicecap_zero (by omega)]; omega)
                obtain ⟨ρ', r1, r2, r3⟩ := new_rel (H.drawn (w.drawn + 1)) hsz n3 n6 (Builtin.zeroCells z.cells (grownCap w (0 + m) 0 e - (0 + m)))
                simp only [Nat.zero_add, Array.empty_append] at hrun r2 r3
                refine ⟨_, _, ρ', hrun, r1, r2, VR.slice ⟨rfl, grownCap_ge w m 0 e, .inl rfl, .inl ⟨rfl, _, r3, rfl, ?_⟩⟩⟩
                have := room m cs.length (grownCap w m 0 e) n4 (grownCap_ge w m 0 e)
                simpa using this
              · cases hv
        · cases hv
      · rename_i a n c
        obtain ⟨a', c', rfl, hS⟩ := hs.slice_inv
        obtain ⟨hnn, hnc, hcc, hS⟩ := hS
        cases a' with
        | none => exact hS.elim
        | some y =>
          split at hv
          · rename_i hm0
            subst hm0
            cases hv
            have hcs : cs = [] := List.eq_nil_of_length_eq_zero (by simpa using n4)
            subst hcs
            exact ⟨_, w, ρ, run_append_in hd hd2 c1 hi n2 (n5 w rfl) (by omega) (w1 := w) (by simp [storeCells]), RenLe.refl _, H, by rw [Nat.add_zero]; exact VR.slice ⟨rfl, hnc, hcc, hS⟩⟩
          · rename_i hm0
            split at hv
            · cases hv
            rename_i k hk
            split at hv
            · rename_i hl
              obtain ⟨l1, l2, l3, l4⟩ := hl
              obtain ⟨L, hL, B⟩ := H.lies _ k hk
              have hLs : L.sz = i.size := by
                obtain ⟨i', hi1, hi2⟩ := B.info
                simp only [asz, hi1, Option.map_some, Option.some.injEq] at l3
                omega
              obtain ⟨os, o1, o2, o3, o4⟩ := cells_rel H hk hL l1 l2
              -- where the slice lies, if it lies anywhere
              have hy : (y = ⟨L.blk, L.off + a.off, none⟩ ∧ L.off + a.off + c' * L.sz ≤ L.top) ∨ c' = 0 := by
                rcases hS with ⟨_, L', hL', h1, h2⟩ | h0
                · rw [hL] at hL'; cases hL'; exact .inl ⟨h1, h2⟩
                · exact .inr h0
              have hold : ∀ w', w'.heap = w.heap → (Builtin.firstCells i.size n (.slice (some y) n c')).run P w' = .ok os.toArray w' := fun w' hw => by
                rcases hy with ⟨rfl, _⟩ | h0
                · simpa [Builtin.firstCells] using o2 w' hw
                · have hn0 : n = 0 := by omega
                  subst hn0
                  have : os = [] := List.eq_nil_of_length_eq_zero (by simpa using o1)
                  subst this
                  simp [Builtin.firstCells, loadCells, loadCellsFrom]
              have hbn := hbig _ l4
              -- where the append moves
              have moved : c' < n + m → (Builtin.append_ #[t, t2] ty #[.slice (some y) n c', x']).run P w =
                  .ok (.slice (some ⟨w.heap.size, 0, none⟩) (n + m) (grownCap w (n + m) c' e)) (w.drew.alloc (.cells ((os ++ cs).toArray ++ Builtin.zeroCells z.cells (grownCap w (n + m) c' e - (n + m))) e)) := fun hlt => by
                have := run_append_new (P := P) (w := w) (ty := ty) (base := some y) (n := n) (c := c') hd hd2 c1 hi hz n2 (hold w.drew rfl) (n5 w.drew rfl) hlt (by omega) (growslice_fits hlt l4)
                rw [this]; simp
              have hlen : (os ++ cs).length = (n + m) * i.size := by rw [List.length_append, o1, n4, Nat.add_mul]
              have hval : AR ρ ((k.cells.drop a.off).take (n * i.size) ++ news).toArray (os ++ cs).toArray := by
                have := o4.append n6
                simpa using this
              have hone : ∀ v, v ∈ (k.cells.drop a.off).take (n * i.size) ++ news → one v = true := fun v hv => by
                rcases List.mem_append.1 hv with h1 | h1
                · exact o3 v h1
                · exact n3 v h1
              have hroom := fun g (hg : n + m ≤ g) => room (n + m) (os ++ cs).length g hlen hg
              split at hv
              · rename_i hfull
                cases hv
                have hlt : c' < n + m := by clear hS; omega
                obtain ⟨ρ', r1, r2, r3⟩ := new_rel (H.drawn (w.drawn + 1)) hsz hone hval (Builtin.zeroCells z.cells (grownCap w (n + m) c' e - (n + m)))
                refine ⟨_, _, ρ', moved hlt, r1, r2, VR.slice ⟨rfl, grownCap_ge w (n + m) c' e, .inl rfl, .inl ⟨rfl, _, r3, rfl, ?_⟩⟩⟩
                have := hroom (grownCap w (n + m) c' e) (grownCap_ge w (n + m) c' e)
                simpa using this
              · split at hv
                · rename_i hro
                  cases hv
                  by_cases hfit : n + m ≤ c'
                  · obtain ⟨rfl, htop⟩ := hy.resolve_right (by omega)
                    have hcap : (n + m) * i.size ≤ c' * i.size := Nat.mul_le_mul_right _ hfit
                    rw [Nat.add_mul] at hcap
                    rw [hLs] at htop
                    obtain ⟨_, _, arr, tt, fr, ha, hsz2, hfr⟩ := B.own hro
                    have hcsone : ∀ v, v ∈ cs → one v = true := fun v hv => by
                      obtain ⟨j, hj⟩ := List.mem_iff_getElem?.1 hv
                      have hjl := (List.getElem?_eq_some_iff.1 hj).1
                      have hjn : j < news.length := by omega
                      have := n6.2 j news[j] v (by simp [hjn]) (by simpa using hj)
                      rw [this.one_eq]; exact n3 _ (List.getElem_mem _)
                    obtain ⟨w1, s1, s2, s3, s4, s5, s6, arr', s7, s8, s9⟩ := run_cells (P := P) L.blk (L.off + a.off + n * i.size) tt fr cs 0 arr w hcsone ha (by omega) (fun j hj => hfr.2.1 j (by omega))
                    have hrun := run_append_in (P := P) (w := w) (ty := ty) (a := ⟨L.blk, L.off + a.off, none⟩) (n := n) (c := c') hd hd2 c1 hi n2 (n5 w rfl) hfit (w1 := w1) (by rw [add_plain']; exact s1)
                    have G := H.grownIn (w1 := w1) hk hL l1 hro (o := a.off) (c := n * i.size) l2 (news := news) (news' := cs) (by omega)
                      (fun j v v' hj hj' => ⟨n3 v (List.mem_of_getElem? hj), n6.2 j v v' (by simpa using hj) (by simpa using hj')⟩) (by omega) s2 s3 s4 s5 s6
                      (fun arr2 t2' fr2 h2 => by rw [ha] at h2; cases h2; exact ⟨arr', s7, s8, fun j => by rw [s9 j]; simp only [Nat.add_zero]⟩)
                    refine ⟨_, w1, _, hrun, H.le_add _, G, VR.slice ⟨rfl, hfit, .inl rfl, .inl ⟨rfl, _, Ren.add_self, by simp, ?_⟩⟩⟩
                    simp only [Nat.add_zero, hLs]; omega
                  · have hlt : c' < n + m := by omega
                    have G := (H.drawn (w.drawn + 1)).grownNew hk hL (o := a.off) (c := n * i.size) (news := news) (w1 := w.drew.alloc (.cells ((os ++ cs).toArray ++ Builtin.zeroCells z.cells (grownCap w (n + m) c' e - (n + m))) e))
                      (below_alloc' w.drew _) (heap_alloc_new w.drew _) ⟨i, hi, hLs.symm⟩ (by have := hval.1; simp at this ⊢; omega) (fun j v hj => by
                        have hjl := (List.getElem?_eq_some_iff.1 hj).1
                        obtain ⟨q, hq, hr⟩ := hval.get (i := j) (x := v) (by simpa using hj)
                        have hjc := (Array.getElem?_eq_some_iff.1 hq).1
                        exact ⟨hone v (List.mem_of_getElem? hj), q, by rw [Array.getElem?_append_left hjc]; exact hq, hr⟩)
                    refine ⟨_, _, _, moved hlt, H.le_add _, G, VR.slice ⟨rfl, grownCap_ge w (n + m) c' e, .inl rfl, .inl ⟨rfl, _, Ren.add_self, rfl, ?_⟩⟩⟩
                    have := hroom (grownCap w (n + m) c' e) (grownCap_ge w (n + m) c' e)
                    rw [← hLs] at this
                    simpa using this
                · cases hv
            · cases hv
      · cases hv
    · cases hv
  · cases hv
end
end Go.Proofs.YthmpaddhmgnkbaaDoor.Am
end
