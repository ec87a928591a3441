/- The texts of this seat, one behind another (part 2 of 25): the frame (an abstract machine), the contracts of functions, the laws. -/
import Derived.Test.YthmpaddhmgnkbaaDoorZ1
import Derived.RangeFuncRecord
section
/- The frame Am, second text: abstract heaps, their relation to a world, and what becomes of it where the world changes. Nothing of a program stands here. -/
set_option linter.unusedVariables false
namespace Go.Proofs.YthmpaddhmgnkbaaDoor.Am
open Go Go.RowKit

/-- An abstract block: its cells; whose memory it may share (fam); may it be read (live); does its family's memory end with it (tail); is it handed in (ro: never written). -/
structure Blk where
  cells : List Value
  elem : TypeId
  fam : Nat
  live : Bool
  tail : Bool
  ro : Bool

/-- What is no cells: the record of a range over a function, as it is told. -/
inductive AObj where
  | loop (n : Nat) (tm : Nat → Value) (st : LoopState) (pend : Option Code) (ps : Array Tmp) (asg body : Code)
  | map (k : IntKind) (es : List (Int × Value))
  | smap (es : List (ByteArray × Value))
/-- Entries' stamps: all behind, and all different. -/
def Born (l : List MapEntry) (clock : Nat) : Prop := (∀ e, e ∈ l → e.born < clock) ∧ (l.map (·.born)).Nodup
/-- How it lies in a world. -/
def ObjR (ρ : Ren) : AObj → Obj → Prop
  | .loop n tm st pend ps asg body, .loop r => r.state = st ∧ r.pending = pend ∧ r.params = ps ∧ r.assign = asg ∧ r.body = body ∧ r.tmps.size = n ∧ ∀ t, t < n → VR ρ (tm t) (r.tmps.getD t undef)
  | .map k es, .map ms _ => ms.size = es.length ∧ ∀ (i : Nat) x e, es[i]? = some x → ms[i]? = some e → e.key = .int k x.1 ∧ VR ρ x.2 e.val
  | .smap es, .map ms clock => ms.size = es.length ∧ (∀ (i : Nat) x e, es[i]? = some x → ms[i]? = some e → e.key = .string x.1 ∧ VR ρ x.2 e.val) ∧ Born ms.toList clock
  | _, _ => False
theorem ObjR.mono {ρ ρ' : Ren} (hρ : RenLe ρ ρ') {ao : AObj} {o : Obj} (h : ObjR ρ ao o) : ObjR ρ' ao o := by
  cases ao <;> cases o <;> simp only [ObjR] at h ⊢
  · obtain ⟨h1, h2, h3, h4, h5, h6, h7⟩ := h
    exact ⟨h1, h2, h3, h4, h5, h6, fun t ht => (h7 t ht).mono hρ⟩
  · exact ⟨h.1, fun i x e hx he => ⟨(h.2 i x e hx he).1, (h.2 i x e hx he).2.mono hρ⟩⟩
  · exact ⟨h.1, fun i x e hx he => ⟨(h.2.1 i x e hx he).1, (h.2.1 i x e hx he).2.mono hρ⟩, h.2.2⟩
theorem ObjR.eqv {ρ ρ' : Ren} (hρ : RenEq ρ ρ') {ao : AObj} {o : Obj} (h : ObjR ρ ao o) : ObjR ρ' ao o := by
  cases ao <;> cases o <;> simp only [ObjR] at h ⊢
  · obtain ⟨h1, h2, h3, h4, h5, h6, h7⟩ := h
    exact ⟨h1, h2, h3, h4, h5, h6, fun t ht => (h7 t ht).eqv hρ⟩
  · exact ⟨h.1, fun i x e hx he => ⟨(h.2 i x e hx he).1, (h.2 i x e hx he).2.eqv hρ⟩⟩
  · exact ⟨h.1, fun i x e hx he => ⟨(h.2.1 i x e hx he).1, (h.2.1 i x e hx he).2.eqv hρ⟩, h.2.2⟩
def cellsO : Obj → Bool
  | .cells .. => true
  | _ => false
def markO : Obj → Bool
  | .deferred _ => true
  | _ => false
theorem ObjR.kind {ρ : Ren} {ao : AObj} {o : Obj} (h : ObjR ρ ao o) : cellsO o = false ∧ markO o = false := by
  cases ao <;> cases o <;> simp_all [ObjR, cellsO, markO]

structure Heap where
  size : Nat
  get : Nat → Option Blk
  obj : Nat → Option AObj

def Heap.push (h : Heap) (k : Blk) : Heap := ⟨h.size + 1, fun x => if x = h.size then some k else h.get x, h.obj⟩
def Heap.put (h : Heap) (b : Nat) (k : Blk) : Heap := ⟨h.size, fun x => if x = b then some k else h.get x, h.obj⟩
/-- An object (in a place that is there; behind all). -/
def Heap.oput (h : Heap) (b : Nat) (ao : AObj) : Heap := ⟨h.size, h.get, fun x => if x = b then some ao else h.obj x⟩
def Heap.more (h : Heap) : Heap := ⟨h.size + 1, h.get, h.obj⟩
def Heap.opush (h : Heap) (ao : AObj) : Heap := h.more.oput h.size ao
def Blk.killed (f : Nat) (k : Blk) : Blk := if k.fam = f ∧ k.ro = false then { k with live := false } else k
def Heap.kill (h : Heap) (f : Nat) : Heap := ⟨h.size, fun x => (h.get x).map (Blk.killed f), h.obj⟩
/-- A list with vs written over it from place i on. -/
def over (xs : List Value) (i : Nat) (vs : List Value) : List Value := xs.take i ++ vs ++ xs.drop (i + vs.length)
/-- A new block of the call's own. -/
def Heap.new (h : Heap) (e : TypeId) (cells : List Value) : Heap := h.push ⟨cells, e, h.size, true, true, false⟩
def Heap.store (h : Heap) (b : Nat) (k : Blk) (i : Nat) (vs : List Value) : Heap := (h.kill k.fam).put b { k with cells := over k.cells i vs }
/-- Behind an append to a slice of block b that begins at o and has c cells. -/
def Heap.grow (h : Heap) (b : Nat) (k : Blk) (o c : Nat) (news : List Value) : Heap :=
  (if k.tail = true ∧ o + c = k.cells.length then h.put b { k with tail := false } else h.kill k.fam).push ⟨(k.cells.drop o).take c ++ news, k.elem, k.fam, true, true, false⟩

theorem over_length {xs : List Value} {i : Nat} {vs : List Value} (h : i + vs.length ≤ xs.length) : (over xs i vs).length = xs.length := by
  simp only [over, List.length_append, List.length_take, List.length_drop]; omega
theorem over_get {xs : List Value} {i : Nat} {vs : List Value} (h : i + vs.length ≤ xs.length) (j : Nat) :
    (over xs i vs)[j]? = if i ≤ j ∧ j < i + vs.length then vs[j - i]? else xs[j]? := by
  simp only [over]
  by_cases h1 : j < i
  · rw [List.getElem?_append_left (by simp; omega), List.getElem?_append_left (by simp; omega), List.getElem?_take, if_pos h1, if_neg (by omega)]
  · by_cases h2 : j < i + vs.length
    · rw [List.getElem?_append_left (by simp; omega), List.getElem?_append_right (by simp; omega), if_pos ⟨by omega, h2⟩]
      simp only [List.length_take]; rw [Nat.min_eq_left (by omega)]
    · rw [List.getElem?_append_right (by simp; omega), if_neg (by omega), List.getElem?_drop]
      congr 1
      simp only [List.length_append, List.length_take]; omega

/-- How a block's cells lie in a world. -/
structure BR (P : Program) (w0 : World) (ρ : Ren) (w : World) (k : Blk) (L : Loc) : Prop where
  reads : k.live = true → ∀ i v, k.cells[i]? = some v → one v = true ∧ ∃ v', w.cell? ⟨L.blk, L.off + i, none⟩ = some v' ∧ VR ρ v v'
  came : k.ro = true → L.blk < w0.heap.size
  own : k.ro = false → w0.heap.size ≤ L.blk ∧ L.off + k.cells.length ≤ L.top ∧ ∃ arr t fr, w.heap[L.blk]? = some (.cells arr t fr) ∧ arr.size = L.top ∧ fr.1 ≤ fr.2 ∧ (∀ o, o < L.top → ¬ (fr.1 ≤ o ∧ o < fr.2)) ∧ (∃ i, P.info? t = some i ∧ i.size = L.sz) ∧ (L.sz ≠ 1 → ¬ (fr.1 ≤ L.top ∧ L.top < fr.2))
  info : ∃ i, P.info? k.elem = some i ∧ i.size = L.sz
  whole : k.ro = true → k.fam ≠ 0 → ∃ arr t fr, w0.heap[L.blk]? = some (.cells arr t fr) ∧ arr.size = L.off + k.cells.length

/-- What lies beside the cells: objects, and the open blocks of ranges' deferred calls. -/
structure More (w0 : World) (ρ : Ren) (h : Heap) (w : World) : Prop where
  objs : ∀ b ao, h.obj b = some ao → b < h.size ∧ ∃ L o, ρ b = some L ∧ L.mrk = false ∧ w0.heap.size ≤ L.blk ∧ w.heap[L.blk]? = some o ∧ ObjR ρ ao o
  objsep : ∀ b1 b2 a1 a2 L1 L2, b1 ≠ b2 → h.obj b1 = some a1 → h.obj b2 = some a2 → ρ b1 = some L1 → ρ b2 = some L2 → L1.blk ≠ L2.blk
  marks : ∀ b L, ρ b = some L → L.mrk = true → w0.heap.size ≤ L.blk ∧ w.heap[L.blk]? = some (.deferred (some []))
  marksep : ∀ b1 b2 L1 L2, b1 ≠ b2 → ρ b1 = some L1 → ρ b2 = some L2 → L1.mrk = true → L2.mrk = true → L1.blk ≠ L2.blk
theorem More.step {w0 : World} {ρ ρ' : Ren} {h h' : Heap} {w w1 : World} (M : More w0 ρ h w) (hs : h.size ≤ h'.size) (ho : h'.obj = h.obj) (hρ : RenLe ρ ρ') (hn : ∀ b L, ρ' b = some L → L.mrk = true → ρ b = some L)
    (hw : ∀ (l : Nat) (o : Obj), w0.heap.size ≤ l → w.heap[l]? = some o → cellsO o = false → w1.heap[l]? = some o) : More w0 ρ' h' w1 := by
  refine ⟨fun b ao hb => ?_, fun b1 b2 a1 a2 L1 L2 hne h1 h2 r1 r2 => ?_, fun b L hL hm => ?_, fun b1 b2 L1 L2 hne r1 r2 m1 m2 => ?_⟩
  · rw [ho] at hb
    obtain ⟨h1, L, o, h2, h3, h4, h5, h6⟩ := M.objs b ao hb
    exact ⟨Nat.lt_of_lt_of_le h1 hs, L, o, hρ _ _ h2, h3, h4, hw _ _ h4 h5 h6.kind.1, h6.mono hρ⟩
  · rw [ho] at h1 h2
    obtain ⟨_, L1', _, g1, _⟩ := M.objs b1 a1 h1
    obtain ⟨_, L2', _, g2, _⟩ := M.objs b2 a2 h2
    have e1 := hρ _ _ g1; have e2 := hρ _ _ g2
    rw [r1] at e1; rw [r2] at e2
    cases e1; cases e2
    exact M.objsep b1 b2 a1 a2 L1 L2 hne h1 h2 g1 g2
  · obtain ⟨h1, h2⟩ := M.marks b L (hn b L hL hm) hm
    exact ⟨h1, hw _ _ h1 h2 rfl⟩
  · exact M.marksep b1 b2 L1 L2 hne (hn _ _ r1 m1) (hn _ _ r2 m2) m1 m2

structure HRel (P : Program) (w0 : World) (ρ : Ren) (h : Heap) (w : World) : Prop where
  below : Below w0.heap.size w0 w
  dom : ∀ b, h.size ≤ b → h.get b = none
  fam : ∀ b k, h.get b = some k → k.fam ≤ b
  lies : ∀ b k, h.get b = some k → ∃ L, ρ b = some L ∧ BR P w0 ρ w k L
  fresh : ∀ b, h.size ≤ b → ρ b = none
  sep : ∀ b1 b2 k1 k2 L1 L2, h.get b1 = some k1 → h.get b2 = some k2 → ρ b1 = some L1 → ρ b2 = some L2 → k1.ro = false → k2.ro = false → L1.blk = L2.blk → k1.fam = k2.fam
  tails : ∀ b1 b2 k1 k2 L1 L2, b1 ≠ b2 → h.get b1 = some k1 → h.get b2 = some k2 → ρ b1 = some L1 → ρ b2 = some L2 → k1.ro = false → k2.ro = false →
    k1.live = true → k2.live = true → k1.tail = true → L1.blk = L2.blk → L2.off + k2.cells.length ≤ L1.off + k1.cells.length ∧ k2.tail = false
  globs : ∀ g, g < P.globals.size → ∃ L, ρ g = some L ∧ L.blk = g ∧ L.off = 0
  mo : More w0 ρ h w

section
variable {P : Program} {w0 w w1 : World} {ρ : Ren} {h : Heap}

theorem HRel.lt (H : HRel P w0 ρ h w) {b k} (hk : h.get b = some k) : b < h.size := by
  rcases Nat.lt_or_ge b h.size with h1 | h1
  · exact h1
  · rw [H.dom b h1] at hk; cases hk
theorem HRel.blk_lt (H : HRel P w0 ρ h w) {b k L} (hk : h.get b = some k) (hL : ρ b = some L) : L.blk < w.heap.size := by
  obtain ⟨L', hL', B⟩ := H.lies b k hk
  rw [hL] at hL'; cases hL'
  cases hr : k.ro with
  | true => exact Nat.lt_of_lt_of_le (B.came hr) H.below.size
  | false =>
    obtain ⟨_, _, arr, t, fr, ha, _⟩ := B.own hr
    exact (Array.getElem?_eq_some_iff.1 ha).1
theorem HRel.br (H : HRel P w0 ρ h w) {b k L} (hk : h.get b = some k) (hL : ρ b = some L) : BR P w0 ρ w k L := by
  obtain ⟨L', hL', B⟩ := H.lies b k hk
  rw [hL] at hL'; cases hL'; exact B

theorem cell_eq {w w1 : World} {a : Addr} (e : w1.heap[a.block]? = w.heap[a.block]?) : w1.cell? a = w.cell? a := by simp only [World.cell?, e]

/-- A world in which nothing that was there has changed. -/
theorem HRel.keep (H : HRel P w0 ρ h w) (hb : Below w.heap.size w w1) : HRel P w0 ρ h w1 where
  below := H.below.trans (hb.mono H.below.size)
  dom := H.dom
  fam := H.fam
  lies b k hk := by
    obtain ⟨L, hL, B⟩ := H.lies b k hk
    have hlt := H.blk_lt hk hL
    have he := hb.block L.blk hlt
    refine ⟨L, hL, fun hl i v hv => ?_, B.came, fun hr => ?_, B.info, B.whole⟩
    · obtain ⟨h1, v', h2, h3⟩ := B.reads hl i v hv
      exact ⟨h1, v', (cell_eq he).trans h2, h3⟩
    · obtain ⟨h1, h2, arr, t, fr, h3, h4⟩ := B.own hr
      exact ⟨h1, h2, arr, t, fr, he.trans h3, h4⟩
  fresh := H.fresh
  sep := H.sep
  tails := H.tails
  globs := H.globs
  mo := H.mo.step (Nat.le_refl _) rfl (RenLe.refl _) (fun _ _ h _ => h) (fun l o _ hl _ => (hb.block l (Array.getElem?_eq_some_iff.1 hl).1).trans hl)
theorem HRel.drawn (H : HRel P w0 ρ h w) (n : Nat) : HRel P w0 ρ h { w with drawn := n } := H.keep ⟨rfl, rfl, rfl, Nat.le_refl _, fun _ _ => rfl⟩

def Ren.add (ρ : Ren) (b : Nat) (L : Loc) : Ren := fun x => if x = b then some L else ρ x
theorem Ren.add_self {ρ : Ren} {b : Nat} {L : Loc} : Ren.add ρ b L b = some L := if_pos rfl
theorem Ren.add_ne {ρ : Ren} {b x : Nat} {L : Loc} (hx : x ≠ b) : Ren.add ρ b L x = ρ x := if_neg hx
theorem HRel.le_add (H : HRel P w0 ρ h w) (L : Loc) : RenLe ρ (Ren.add ρ h.size L) := fun b L' hb => by
  have : b ≠ h.size := fun e => by rw [e, H.fresh _ (Nat.le_refl _)] at hb; cases hb
  rw [Ren.add_ne this]; exact hb

theorem Ren.add_mk {ρ : Ren} {b : Nat} {L : Loc} (hL : L.mrk = false) : ∀ x L', Ren.add ρ b L x = some L' → L'.mrk = true → ρ x = some L' := fun x L' h hm => by
  by_cases e : x = b
  · subst e; rw [Ren.add_self] at h; cases h; rw [hL] at hm; cases hm
  · rwa [Ren.add_ne e] at h
theorem Heap.push_self {h : Heap} {k : Blk} : (h.push k).get h.size = some k := if_pos rfl
theorem Heap.push_ne {h : Heap} {k : Blk} {b : Nat} (hb : b ≠ h.size) : (h.push k).get b = h.get b := if_neg hb
theorem Heap.put_self {h : Heap} {b : Nat} {k : Blk} : (h.put b k).get b = some k := if_pos rfl
theorem Heap.put_ne {h : Heap} {b x : Nat} {k : Blk} (hb : x ≠ b) : (h.put b k).get x = h.get x := if_neg hb

/-- Behind its last cell a row was marked: nothing of it is read by that. -/
theorem HRel.frozen (H : HRel P w0 ρ h w) {b : Nat} {k : Blk} {L : Loc} (hk : h.get b = some k) (hL : ρ b = some L) (hr : k.ro = false) (hs1 : L.sz = 1) : HRel P w0 ρ h (w.freeze ⟨L.blk, L.top, none⟩ 1) := by
  obtain ⟨hbase, htop, arr, t, fr, ha, hsz, hf1, hf2, ⟨it, hit, hits⟩, _⟩ := (H.br hk hL).own hr
  obtain ⟨fr', hfr', hat, hoth, hsize, hos, htape, hout⟩ : ∃ fr' : Nat × Nat, (fr'.1 ≤ fr'.2 ∧ ∀ o, o < L.top → ¬ (fr'.1 ≤ o ∧ o < fr'.2)) ∧ (w.freeze ⟨L.blk, L.top, none⟩ 1).heap[L.blk]? = some (.cells arr t fr') ∧ (∀ x, x ≠ L.blk → (w.freeze ⟨L.blk, L.top, none⟩ 1).heap[x]? = w.heap[x]?) ∧ (w.freeze ⟨L.blk, L.top, none⟩ 1).heap.size = w.heap.size ∧
      (w.freeze ⟨L.blk, L.top, none⟩ 1).os = w.os ∧ (w.freeze ⟨L.blk, L.top, none⟩ 1).tape = w.tape ∧ (w.freeze ⟨L.blk, L.top, none⟩ 1).output = w.output := by
    obtain ⟨lo, hi⟩ := fr
    simp only at hf1 hf2
    refine ⟨if lo == hi then (L.top, L.top + 1) else (min lo L.top, max hi (L.top + 1)), ?_, ?_, fun x hx => ?_, ?_, rfl, rfl, rfl⟩
    · by_cases e : lo = hi
      · subst e
        simp only [beq_self_eq_true, if_true]
        exact ⟨by omega, fun o ho => by omega⟩
      · have e' : (lo == hi) = false := by simpa using e
        simp only [e', Bool.false_eq_true, if_false]
        refine ⟨by omega, fun o ho hc => ?_⟩
        have := hf2 lo (by omega)
        omega
    · have hlt := (Array.getElem?_eq_some_iff.1 ha).1
      have hge : w.heap[L.blk] = .cells arr t (lo, hi) := (Array.getElem?_eq_some_iff.1 ha).2
      simp only [World.freeze, if_neg (show ¬ (1 = 0) by decide), Array.getElem?_modify, if_true, ha, Option.map_some]
    · simp only [World.freeze, if_neg (show ¬ (1 = 0) by decide), Array.getElem?_modify, if_neg (fun e => hx (Eq.symm e))]
    · simp only [World.freeze, if_neg (show ¬ (1 = 0) by decide), Array.size_modify]
  generalize w.freeze ⟨L.blk, L.top, none⟩ 1 = w1 at *
  have hcell : ∀ a : Addr, w1.cell? a = w.cell? a := fun a => by
    by_cases e : a.block = L.blk
    · simp only [World.cell?, e, hat, ha]
    · exact cell_eq (hoth _ e)
  refine ⟨⟨hos.trans H.below.os, htape.trans H.below.tape, hout.trans H.below.output, by rw [hsize]; exact H.below.size, fun x hx => (hoth x (by omega)).trans (H.below.block x hx)⟩, H.dom, H.fam, fun b' k' hk' => ?_, H.fresh, H.sep, H.tails, H.globs, H.mo.step (Nat.le_refl _) rfl (RenLe.refl _) (fun _ _ h _ => h) (fun l o _ hl hc => (hoth l fun e => by rw [e, ha] at hl; cases hl; cases hc).trans hl)⟩
  obtain ⟨L', hL', B⟩ := H.lies b' k' hk'
  refine ⟨L', hL', fun hl i v hv => ?_, B.came, fun hr' => ?_, B.info, B.whole⟩
  · obtain ⟨h1, v', h2, h3⟩ := B.reads hl i v hv
    exact ⟨h1, v', (hcell _).trans h2, h3⟩
  · obtain ⟨q1, q2, arr2, t2, fr2, q3, q4, q5⟩ := B.own hr'
    by_cases e : L'.blk = L.blk
    · rw [e, ha] at q3; cases q3
      have ht : L'.top = L.top := by omega
      obtain ⟨_, _, ⟨i2, hi2, hs2⟩, _⟩ := q5
      rw [hit] at hi2; cases hi2
      exact ⟨q1, q2, arr, t, fr', by rw [e]; exact hat, q4, by rw [ht]; exact ⟨hfr'.1, hfr'.2, ⟨it, hit, hs2⟩, fun hn => absurd (by omega) hn⟩⟩
    · exact ⟨q1, q2, arr2, t2, fr2, (hoth _ e).trans q3, q4, q5⟩

/-- A new block, a new place for it behind all that there were (the elder heap g may have been killed in part: what lies of it is shown by the caller). -/
theorem HRel.pushed (H : HRel P w0 ρ h w) {e : TypeId} {cells : List Value} {f : Nat} (hf : f ≤ h.size) {i : TypeInfo} (hi : P.info? e = some i)
    (hb : Below w.heap.size w w1) {arr : Array Value} {t : TypeId} {fr : Nat × Nat} (ha : w1.heap[w.heap.size]? = some (.cells arr t fr))
    (hfr : fr.1 ≤ fr.2 ∧ (∀ o, o < arr.size → ¬ (fr.1 ≤ o ∧ o < fr.2)) ∧ (∃ it, P.info? t = some it ∧ it.size = i.size) ∧ (i.size ≠ 1 → ¬ (fr.1 ≤ arr.size ∧ arr.size < fr.2))) (hc : cells.length ≤ arr.size)
    (hv : ∀ (j : Nat) (v : Value), cells[j]? = some v → one v = true ∧ ∃ v', arr[j]? = some v' ∧ VR ρ v v') :
    HRel P w0 (Ren.add ρ h.size ⟨w.heap.size, 0, i.size, arr.size, false⟩) (h.push ⟨cells, e, f, true, true, false⟩) w1 := by
  have K := H.keep hb
  have hle := H.le_add ⟨w.heap.size, 0, i.size, arr.size, false⟩
  have old : ∀ b k, (h.push ⟨cells, e, f, true, true, false⟩).get b = some k → (b = h.size ∧ k = ⟨cells, e, f, true, true, false⟩) ∨ (b ≠ h.size ∧ h.get b = some k) := fun b k hk => by
    by_cases hbs : b = h.size
    · subst hbs; rw [Heap.push_self] at hk; cases hk; exact .inl ⟨rfl, rfl⟩
    · rw [Heap.push_ne hbs] at hk; exact .inr ⟨hbs, hk⟩
  refine ⟨K.below, fun b hb' => ?_, fun b k hk => ?_, fun b k hk => ?_, fun b hb' => ?_, fun b1 b2 k1 k2 L1 L2 h1 h2 r1 r2 o1 o2 he => ?_, fun b1 b2 k1 k2 L1 L2 hne h1 h2 r1 r2 o1 o2 l1 l2 t1 he => ?_, fun g hg => by obtain ⟨L, h1, h2⟩ := H.globs g hg; exact ⟨L, hle _ _ h1, h2⟩, K.mo.step (Nat.le_succ _) rfl hle (Ren.add_mk rfl) (fun _ _ _ h _ => h)⟩
  · have : h.size + 1 ≤ b := hb'
    rw [Heap.push_ne (by omega)]; exact H.dom b (by omega)
  · rcases old b k hk with ⟨rfl, rfl⟩ | ⟨_, hk⟩
    · exact hf
    · exact H.fam b k hk
  · rcases old b k hk with ⟨rfl, rfl⟩ | ⟨hbs, hk⟩
    · refine ⟨_, Ren.add_self, fun _ j v hj => ?_, (fun hr => by cases hr), fun _ => ⟨H.below.size, by simpa using hc, arr, t, fr, ha, rfl, hfr⟩, ⟨i, hi, rfl⟩, fun hr => by cases hr⟩
      obtain ⟨h1, v', h2, h3⟩ := hv j v hj
      refine ⟨h1, v', ?_, h3.mono hle⟩
      simp only [World.cell?, ha, Nat.zero_add, Option.isSome_none, Bool.false_eq_true, if_false, h2]
    · obtain ⟨L, hL, B⟩ := K.lies b k hk
      refine ⟨L, hle _ _ hL, fun hl j v hj => ?_, B.came, B.own, B.info, B.whole⟩
      obtain ⟨h1, v', h2, h3⟩ := B.reads hl j v hj
      exact ⟨h1, v', h2, h3.mono hle⟩
  · have : h.size + 1 ≤ b := hb'
    rw [Ren.add_ne (by omega)]; exact H.fresh b (by omega)
  · have lt : ∀ b k L, b ≠ h.size → h.get b = some k → Ren.add ρ h.size ⟨w.heap.size, 0, i.size, arr.size, false⟩ b = some L → L.blk < w.heap.size := fun b k L hne hk hL => by
      rw [Ren.add_ne hne] at hL; exact H.blk_lt hk hL
    rcases old b1 k1 h1 with ⟨rfl, rfl⟩ | ⟨n1, g1⟩ <;> rcases old b2 k2 h2 with ⟨rfl, rfl⟩ | ⟨n2, g2⟩
    · rfl
    · rw [Ren.add_self] at r1; cases r1
      have := lt _ _ _ n2 g2 r2
      simp only at he; omega
    · rw [Ren.add_self] at r2; cases r2
      have := lt _ _ _ n1 g1 r1
      simp only at he; omega
    · rw [Ren.add_ne n1] at r1; rw [Ren.add_ne n2] at r2
      exact H.sep b1 b2 k1 k2 L1 L2 g1 g2 r1 r2 o1 o2 he
  · have lt : ∀ b k L, b ≠ h.size → h.get b = some k → Ren.add ρ h.size ⟨w.heap.size, 0, i.size, arr.size, false⟩ b = some L → L.blk < w.heap.size := fun b k L hne hk hL => by
      rw [Ren.add_ne hne] at hL; exact H.blk_lt hk hL
    rcases old b1 k1 h1 with ⟨rfl, rfl⟩ | ⟨n1, g1⟩ <;> rcases old b2 k2 h2 with ⟨rfl, rfl⟩ | ⟨n2, g2⟩
    · exact absurd rfl hne
    · rw [Ren.add_self] at r1; cases r1
      have := lt _ _ _ n2 g2 r2
      simp only at he; omega
    · rw [Ren.add_self] at r2; cases r2
      have := lt _ _ _ n1 g1 r1
      simp only at he; omega
    · rw [Ren.add_ne n1] at r1; rw [Ren.add_ne n2] at r2
      exact H.tails b1 b2 k1 k2 L1 L2 hne g1 g2 r1 r2 o1 o2 l1 l2 t1 he

/-- Fewer blocks live, fewer tails: still so. -/
def Blk.less (k' k : Blk) : Prop := k'.cells = k.cells ∧ k'.elem = k.elem ∧ k'.fam = k.fam ∧ k'.ro = k.ro ∧ (k'.live = true → k.live = true) ∧ (k'.tail = true → k.tail = true)
theorem HRel.less (H : HRel P w0 ρ h w) {h' : Heap} (hs : h'.size = h.size) (ho : h'.obj = h.obj) (hg : ∀ b, match h'.get b with | none => h.get b = none | some k' => ∃ k, h.get b = some k ∧ k'.less k) : HRel P w0 ρ h' w := by
  have back : ∀ b k', h'.get b = some k' → ∃ k, h.get b = some k ∧ k'.less k := fun b k' hk => by have := hg b; rw [hk] at this; exact this
  refine ⟨H.below, fun b hb => ?_, fun b k hk => ?_, fun b k hk => ?_, fun b hb => H.fresh b (by omega), fun b1 b2 k1 k2 L1 L2 h1 h2 r1 r2 o1 o2 he => ?_, fun b1 b2 k1 k2 L1 L2 hne h1 h2 r1 r2 o1 o2 l1 l2 t1 he => ?_, H.globs, H.mo.step (Nat.le_of_eq hs.symm) ho (RenLe.refl _) (fun _ _ h _ => h) (fun _ _ _ h _ => h)⟩
  · cases hk : h'.get b with
    | none => rfl
    | some k' => obtain ⟨k, h1, _⟩ := back b k' hk; rw [H.dom b (by omega)] at h1; cases h1
  · obtain ⟨k0, h1, hc, he, hf, hr, hl, ht⟩ := back b k hk
    rw [hf]; exact H.fam b k0 h1
  · obtain ⟨k0, h1, hc, he, hf, hr, hl, ht⟩ := back b k hk
    obtain ⟨L, hL, B⟩ := H.lies b k0 h1
    refine ⟨L, hL, fun hl' => ?_, fun hr' => B.came (by rw [← hr]; exact hr'), fun hr' => ?_, ?_, ?_⟩
    · rw [hc]; exact B.reads (hl hl')
    · rw [hc]; exact B.own (by rw [← hr]; exact hr')
    · rw [he]; exact B.info
    · intro h1 h2; rw [hc]; exact B.whole (by rw [← hr]; exact h1) (by rw [← hf]; exact h2)
  · obtain ⟨j1, g1, c1, e1, f1, q1, _, _⟩ := back b1 k1 h1
    obtain ⟨j2, g2, c2, e2, f2, q2, _, _⟩ := back b2 k2 h2
    rw [f1, f2]; exact H.sep b1 b2 j1 j2 L1 L2 g1 g2 r1 r2 (by rw [← q1]; exact o1) (by rw [← q2]; exact o2) he
  · obtain ⟨j1, g1, c1, e1, f1, q1, m1, n1⟩ := back b1 k1 h1
    obtain ⟨j2, g2, c2, e2, f2, q2, m2, n2⟩ := back b2 k2 h2
    have := H.tails b1 b2 j1 j2 L1 L2 hne g1 g2 r1 r2 (by rw [← q1]; exact o1) (by rw [← q2]; exact o2) (m1 l1) (m2 l2) (n1 t1) he
    rw [c1, c2]
    refine ⟨this.1, ?_⟩
    cases ht : k2.tail with
    | false => rfl
    | true => have h3 := n2 ht; rw [this.2] at h3; cases h3
theorem Blk.less_refl (k : Blk) : k.less k := ⟨rfl, rfl, rfl, rfl, id, id⟩
theorem Blk.killed_less (f : Nat) (k : Blk) : (k.killed f).less k := by
  unfold Blk.killed; split
  · exact ⟨rfl, rfl, rfl, rfl, (fun h => by cases h), id⟩
  · exact Blk.less_refl k
theorem HRel.kill (H : HRel P w0 ρ h w) (f : Nat) : HRel P w0 ρ (h.kill f) w := H.less rfl rfl (fun b => by
  simp only [Heap.kill]
  cases hk : h.get b with
  | none => rfl
  | some k => exact ⟨k, rfl, Blk.killed_less f k⟩)
theorem HRel.untail (H : HRel P w0 ρ h w) {b k} (hk : h.get b = some k) : HRel P w0 ρ (h.put b { k with tail := false }) w := H.less rfl rfl (fun x => by
  by_cases hx : x = b
  · subst hx; rw [Heap.put_self]; exact ⟨k, hk, rfl, rfl, rfl, rfl, id, fun h => by cases h⟩
  · rw [Heap.put_ne hx]
    cases hk : h.get x with
    | none => rfl
    | some k => exact ⟨k, rfl, Blk.less_refl k⟩)

/-- Cells written over in a block of the call's own. w1: the world behind it. -/
theorem HRel.stored (H : HRel P w0 ρ h w) {b : Nat} {k : Blk} {L : Loc} (hk : h.get b = some k) (hL : ρ b = some L) (hl : k.live = true) (hr : k.ro = false)
    {i : Nat} {vs vs' : List Value} (hi : i + vs.length ≤ k.cells.length) (hlen : vs'.length = vs.length) (hv : ∀ (j : Nat) (v v' : Value), vs[j]? = some v → vs'[j]? = some v' → one v = true ∧ VR ρ v v')
    (hos : w1.os = w.os) (htape : w1.tape = w.tape) (hout : w1.output = w.output) (hsize : w1.heap.size = w.heap.size) (hother : ∀ x, x ≠ L.blk → w1.heap[x]? = w.heap[x]?)
    (hthis : ∀ arr t fr, w.heap[L.blk]? = some (.cells arr t fr) → ∃ arr', w1.heap[L.blk]? = some (.cells arr' t fr) ∧ arr'.size = arr.size ∧ ∀ j, arr'[j]? = if L.off + i ≤ j ∧ j < L.off + i + vs'.length then vs'[j - (L.off + i)]? else arr[j]?) :
    HRel P w0 ρ (h.store b k i vs) w1 := by
  have B := H.br hk hL
  obtain ⟨hbase, htop, arr, t, fr, ha, hsz, hfr⟩ := B.own hr
  obtain ⟨arr', ha', hsz', hget⟩ := hthis arr t fr ha
  have hb1 : Below w0.heap.size w0 w1 := ⟨hos.trans H.below.os, htape.trans H.below.tape, hout.trans H.below.output, by rw [hsize]; exact H.below.size, fun x hx => (hother x (by omega)).trans (H.below.block x hx)⟩
  have K := H.kill k.fam
  have other : ∀ x k2, x ≠ b → (h.kill k.fam).get x = some k2 → ∃ k0, h.get x = some k0 ∧ k2 = k0.killed k.fam := fun x k2 hx hk2 => by
    simp only [Heap.kill, Option.map_eq_some_iff] at hk2
    obtain ⟨k0, h1, h2⟩ := hk2
    exact ⟨k0, h1, h2.symm⟩
  have dead : ∀ x k0 L2, x ≠ b → h.get x = some k0 → ρ x = some L2 → k0.ro = false → L2.blk = L.blk → (k0.killed k.fam).live = false := fun x k0 L2 hx h1 h2 h3 h4 => by
    have := H.sep x b k0 k L2 L h1 hk h2 hL h3 hr h4
    simp [Blk.killed, this, h3]
  have old : ∀ x k2, (h.store b k i vs).get x = some k2 → (x = b ∧ k2 = { k with cells := over k.cells i vs }) ∨ (x ≠ b ∧ (h.kill k.fam).get x = some k2) := fun x k2 hx => by
    by_cases e : x = b
    · subst e; simp only [Heap.store, Heap.put_self] at hx; cases hx; exact .inl ⟨rfl, rfl⟩
    · simp only [Heap.store] at hx; rw [Heap.put_ne e] at hx; exact .inr ⟨e, hx⟩
  refine ⟨hb1, fun x hx => ?_, fun x k2 hx => ?_, fun x k2 hx => ?_, H.fresh, fun b1 b2 k1 k2 L1 L2 h1 h2 r1 r2 o1 o2 he => ?_, fun b1 b2 k1 k2 L1 L2 hne h1 h2 r1 r2 o1 o2 l1 l2 t1 he => ?_, H.globs, H.mo.step (Nat.le_refl _) rfl (RenLe.refl _) (fun _ _ h _ => h) (fun l o _ hl hc => (hother l fun e => by rw [e, ha] at hl; cases hl; cases hc).trans hl)⟩
  · have hlt := H.lt hk
    have : h.size ≤ x := hx
    simp only [Heap.store]; rw [Heap.put_ne (by omega)]; exact K.dom x hx
  · rcases old x k2 hx with ⟨rfl, rfl⟩ | ⟨_, hx⟩
    · exact H.fam x k hk
    · exact K.fam x k2 hx
  · rcases old x k2 hx with ⟨rfl, rfl⟩ | ⟨hne, hx⟩
    · refine ⟨L, hL, fun _ j v hj => ?_, (fun hr' => by rw [hr] at hr'; cases hr'), fun _ => ⟨hbase, by rw [over_length hi]; exact htop, arr', t, fr, ha', hsz'.trans hsz, hfr⟩, B.info, fun hr' => by first | (rw [hr] at hr'; cases hr') | cases hr'⟩
      simp only [over_get hi] at hj
      have hcell : w1.cell? ⟨L.blk, L.off + j, none⟩ = arr'[L.off + j]? := by simp [World.cell?, ha']
      rw [hcell, hget]
      by_cases hj' : i ≤ j ∧ j < i + vs.length
      · rw [if_pos hj'] at hj
        rw [if_pos (by omega), show L.off + j - (L.off + i) = j - i from by omega]
        have hlt : j - i < vs'.length := by omega
        obtain ⟨h1, h2⟩ := hv (j - i) v vs'[j - i] hj (by simp [hlt])
        exact ⟨h1, vs'[j - i], by simp [hlt], h2⟩
      · rw [if_neg hj'] at hj
        rw [if_neg (by omega)]
        obtain ⟨h1, v', h2, h3⟩ := B.reads hl j v hj
        refine ⟨h1, v', ?_, h3⟩
        simpa [World.cell?, ha] using h2
    · obtain ⟨L2, hL2, B2⟩ := K.lies x k2 hx
      obtain ⟨k0, hk0, rfl⟩ := other x k2 hne hx
      have hro : (k0.killed k.fam).ro = k0.ro := (Blk.killed_less _ _).2.2.2.1
      refine ⟨L2, hL2, fun hl2 j v hj => ?_, B2.came, fun hr2 => ?_, B2.info, B2.whole⟩
      · have hd : L2.blk ≠ L.blk := fun e => by
          cases hr0 : k0.ro with
          | false => have := dead x k0 L2 hne hk0 hL2 hr0 e; rw [this] at hl2; cases hl2
          | true => have := B2.came (hro.trans hr0); omega
        obtain ⟨h1, v', h2, h3⟩ := B2.reads hl2 j v hj
        exact ⟨h1, v', (cell_eq (hother _ hd)).trans h2, h3⟩
      · obtain ⟨q1, q2, arr2, t2, fr2, q3, q4, q5⟩ := B2.own hr2
        by_cases e : L2.blk = L.blk
        · rw [e, ha] at q3; cases q3
          exact ⟨q1, q2, arr', t, fr, by rw [e]; exact ha', hsz'.trans q4, q5⟩
        · exact ⟨q1, q2, arr2, t2, fr2, (hother _ e).trans q3, q4, q5⟩
  · have nf : ∀ x k2, (h.store b k i vs).get x = some k2 → ∃ k0, h.get x = some k0 ∧ k2.fam = k0.fam ∧ k2.ro = k0.ro := fun x k2 hx => by
      rcases old x k2 hx with ⟨rfl, rfl⟩ | ⟨hne, hx⟩
      · exact ⟨k, hk, rfl, rfl⟩
      · obtain ⟨k0, hk0, rfl⟩ := other x k2 hne hx
        exact ⟨k0, hk0, (Blk.killed_less _ _).2.2.1, (Blk.killed_less _ _).2.2.2.1⟩
    obtain ⟨j1, g1, f1, q1⟩ := nf b1 k1 h1
    obtain ⟨j2, g2, f2, q2⟩ := nf b2 k2 h2
    rw [f1, f2]
    exact H.sep b1 b2 j1 j2 L1 L2 g1 g2 r1 r2 (q1 ▸ o1) (q2 ▸ o2) he
  · rcases old b1 k1 h1 with ⟨rfl, rfl⟩ | ⟨n1, g1⟩ <;> rcases old b2 k2 h2 with ⟨rfl, rfl⟩ | ⟨n2, g2⟩
    · exact absurd rfl hne
    · obtain ⟨k0, hk0, rfl⟩ := other b2 k2 n2 g2
      rw [hL] at r1; cases r1
      have := dead b2 k0 L2 n2 hk0 r2 ((Blk.killed_less _ _).2.2.2.1 ▸ o2) he.symm
      rw [this] at l2; cases l2
    · obtain ⟨k0, hk0, rfl⟩ := other b1 k1 n1 g1
      rw [hL] at r2; cases r2
      have := dead b1 k0 L1 n1 hk0 r1 ((Blk.killed_less _ _).2.2.2.1 ▸ o1) he
      rw [this] at l1; cases l1
    · exact K.tails b1 b2 k1 k2 L1 L2 hne g1 g2 r1 r2 o1 o2 l1 l2 t1 he

/-- The heap behind an append, ahead of the new block. -/
def Heap.past (h : Heap) (b : Nat) (k : Blk) (o c : Nat) : Heap := if k.tail = true ∧ o + c = k.cells.length then h.put b { k with tail := false } else h.kill k.fam
theorem HRel.past (H : HRel P w0 ρ h w) {b k} (hk : h.get b = some k) (o c : Nat) : HRel P w0 ρ (h.past b k o c) w := by
  unfold Heap.past; split
  · exact H.untail hk
  · exact H.kill _
theorem Heap.past_size (h : Heap) (b : Nat) (k : Blk) (o c : Nat) : (h.past b k o c).size = h.size := by unfold Heap.past; split <;> rfl
theorem Heap.past_obj (h : Heap) (b : Nat) (k : Blk) (o c : Nat) : (h.past b k o c).obj = h.obj := by unfold Heap.past; split <;> rfl
theorem Heap.grow_eq (h : Heap) (b : Nat) (k : Blk) (o c : Nat) (news : List Value) : h.grow b k o c news = (h.past b k o c).push ⟨(k.cells.drop o).take c ++ news, k.elem, k.fam, true, true, false⟩ := rfl
theorem Heap.past_back {b k} (hk : h.get b = some k) (o c : Nat) {x k2} (hx : (h.past b k o c).get x = some k2) : ∃ k0, h.get x = some k0 ∧ k2.less k0 := by
  unfold Heap.past at hx; split at hx
  · by_cases e : x = b
    · subst e; rw [Heap.put_self] at hx; cases hx; exact ⟨k, hk, rfl, rfl, rfl, rfl, id, fun h => by cases h⟩
    · rw [Heap.put_ne e] at hx; exact ⟨k2, hx, Blk.less_refl _⟩
  · simp only [Heap.kill, Option.map_eq_some_iff] at hx
    obtain ⟨k0, h1, rfl⟩ := hx
    exact ⟨k0, h1, Blk.killed_less _ _⟩
/-- No block that may be read, and lies in the same memory, goes beyond the slice's end; none of them may be grown. -/
theorem HRel.past_ends (H : HRel P w0 ρ h w) {b k L} (hk : h.get b = some k) (hL : ρ b = some L) (hl : k.live = true) (hr : k.ro = false) {o c : Nat} {x k2 L2}
    (hx : (h.past b k o c).get x = some k2) (hL2 : ρ x = some L2) (hr2 : k2.ro = false) (hl2 : k2.live = true) (he : L2.blk = L.blk) : L2.off + k2.cells.length ≤ L.off + o + c ∧ k2.tail = false := by
  unfold Heap.past at hx; split at hx
  · rename_i ht
    by_cases e : x = b
    · subst e; rw [Heap.put_self] at hx; cases hx
      rw [hL] at hL2; cases hL2
      exact ⟨by have := ht.2; simp only; omega, rfl⟩
    · rw [Heap.put_ne e] at hx
      have := H.tails b x k k2 L L2 (Ne.symm e) hk hx hL hL2 hr hr2 hl hl2 ht.1 he.symm
      exact ⟨by omega, this.2⟩
  · simp only [Heap.kill, Option.map_eq_some_iff] at hx
    obtain ⟨k0, h1, rfl⟩ := hx
    have q := (Blk.killed_less k.fam k0).2.2.2.1
    have := H.sep x b k0 k L2 L h1 hk hL2 hL (q ▸ hr2) hr he
    simp [Blk.killed, this, (q ▸ hr2 : k0.ro = false)] at hl2

theorem part_get {xs : List Value} {o c j : Nat} (hj : j < c) : ((xs.drop o).take c)[j]? = xs[o + j]? := by
  rw [List.getElem?_take, if_pos hj, List.getElem?_drop]

/-- An append where there was room. -/
theorem HRel.grownIn (H : HRel P w0 ρ h w) {b : Nat} {k : Blk} {L : Loc} (hk : h.get b = some k) (hL : ρ b = some L) (hl : k.live = true) (hr : k.ro = false)
    {o c : Nat} (hoc : o + c ≤ k.cells.length) {news news' : List Value} (hlen : news'.length = news.length) (hv : ∀ (j : Nat) (v v' : Value), news[j]? = some v → news'[j]? = some v' → one v = true ∧ VR ρ v v')
    (htop : L.off + o + c + news.length ≤ L.top)
    (hos : w1.os = w.os) (htape : w1.tape = w.tape) (hout : w1.output = w.output) (hsize : w1.heap.size = w.heap.size) (hother : ∀ x, x ≠ L.blk → w1.heap[x]? = w.heap[x]?)
    (hthis : ∀ arr t fr, w.heap[L.blk]? = some (.cells arr t fr) → ∃ arr', w1.heap[L.blk]? = some (.cells arr' t fr) ∧ arr'.size = arr.size ∧ ∀ j, arr'[j]? = if L.off + o + c ≤ j ∧ j < L.off + o + c + news'.length then news'[j - (L.off + o + c)]? else arr[j]?) :
    HRel P w0 (Ren.add ρ h.size ⟨L.blk, L.off + o, L.sz, L.top, false⟩) (h.grow b k o c news) w1 := by
  have B := H.br hk hL
  obtain ⟨hbase, htopb, arr, t, fr, ha, hsz, hfr⟩ := B.own hr
  obtain ⟨arr', ha', hsz', hget⟩ := hthis arr t fr ha
  have hb1 : Below w0.heap.size w0 w1 := ⟨hos.trans H.below.os, htape.trans H.below.tape, hout.trans H.below.output, by rw [hsize]; exact H.below.size, fun x hx => (hother x (by omega)).trans (H.below.block x hx)⟩
  have K := H.past hk o c
  have hps := Heap.past_size h b k o c
  have hle := H.le_add ⟨L.blk, L.off + o, L.sz, L.top, false⟩
  have hpl : ((k.cells.drop o).take c).length = c := by simp only [List.length_take, List.length_drop]; omega
  rw [Heap.grow_eq]
  have old : ∀ x k2, ((h.past b k o c).push ⟨(k.cells.drop o).take c ++ news, k.elem, k.fam, true, true, false⟩).get x = some k2 →
      (x = h.size ∧ k2 = ⟨(k.cells.drop o).take c ++ news, k.elem, k.fam, true, true, false⟩) ∨ (x ≠ h.size ∧ (h.past b k o c).get x = some k2) := fun x k2 hx => by
    by_cases e : x = h.size
    · subst e; rw [← hps, Heap.push_self] at hx; cases hx; exact .inl ⟨rfl, rfl⟩
    · rw [Heap.push_ne (by rw [hps]; exact e)] at hx; exact .inr ⟨e, hx⟩
  refine ⟨hb1, fun x hx => ?_, fun x k2 hx => ?_, fun x k2 hx => ?_, fun x hx => ?_, fun b1 b2 k1 k2 L1 L2 h1 h2 r1 r2 o1 o2 he => ?_, fun b1 b2 k1 k2 L1 L2 hne h1 h2 r1 r2 o1 o2 l1 l2 t1 he => ?_, fun g hg => by obtain ⟨L, h1, h2⟩ := H.globs g hg; exact ⟨L, hle _ _ h1, h2⟩, H.mo.step (by show h.size ≤ (h.past b k o c).size + 1; rw [hps]; exact Nat.le_succ _) (Heap.past_obj h b k o c) hle (Ren.add_mk rfl) (fun l o _ hl hc => (hother l fun e => by rw [e, ha] at hl; cases hl; cases hc).trans hl)⟩
  · have : h.size + 1 ≤ x := by rw [← hps]; exact hx
    rw [Heap.push_ne (by rw [hps]; omega)]; exact K.dom x (by rw [hps]; omega)
  · rcases old x k2 hx with ⟨rfl, rfl⟩ | ⟨_, hx⟩
    · exact Nat.le_of_lt (Nat.lt_of_le_of_lt (H.fam b k hk) (H.lt hk))
    · exact K.fam x k2 hx
  · rcases old x k2 hx with ⟨rfl, rfl⟩ | ⟨hne, hx⟩
    · refine ⟨_, Ren.add_self, fun _ j v hj => ?_, (fun hr' => by cases hr'), fun _ => ⟨hbase, by simp only [List.length_append, hpl]; omega, arr', t, fr, ha', hsz'.trans hsz, hfr⟩, B.info, fun hr' => by first | (rw [hr] at hr'; cases hr') | cases hr'⟩
      have hcell : w1.cell? ⟨L.blk, L.off + o + j, none⟩ = arr'[L.off + o + j]? := by simp [World.cell?, ha']
      rw [hcell, hget]
      by_cases hj' : j < c
      · simp only [List.getElem?_append_left (hpl.symm ▸ hj'), part_get hj'] at hj
        obtain ⟨h1, v', h2, h3⟩ := B.reads hl (o + j) v hj
        rw [if_neg (by omega)]
        refine ⟨h1, v', ?_, h3.mono hle⟩
        rw [← Nat.add_assoc] at h2
        simpa [World.cell?, ha] using h2
      · simp only [List.getElem?_append_right (show ((k.cells.drop o).take c).length ≤ j by omega), hpl] at hj
        have hjl : j - c < news.length := (List.getElem?_eq_some_iff.1 hj).1
        rw [if_pos (by omega), show L.off + o + j - (L.off + o + c) = j - c from by omega]
        have hlt : j - c < news'.length := by omega
        obtain ⟨h1, h2⟩ := hv (j - c) v news'[j - c] hj (by simp [hlt])
        exact ⟨h1, news'[j - c], by simp [hlt], h2.mono hle⟩
    · obtain ⟨L2, hL2, B2⟩ := K.lies x k2 hx
      refine ⟨L2, hle _ _ hL2, fun hl2 j v hj => ?_, B2.came, fun hr2 => ?_, B2.info, B2.whole⟩
      · obtain ⟨h1, v', h2, h3⟩ := B2.reads hl2 j v hj
        refine ⟨h1, v', ?_, h3.mono hle⟩
        by_cases e : L2.blk = L.blk
        · cases hr2 : k2.ro with
          | true => have := B2.came hr2; omega
          | false =>
            have hend := (H.past_ends hk hL hl hr hx hL2 hr2 hl2 e).1
            have hjl : j < k2.cells.length := (List.getElem?_eq_some_iff.1 hj).1
            have hcell : w1.cell? ⟨L2.blk, L2.off + j, none⟩ = arr'[L2.off + j]? := by simp [World.cell?, e, ha']
            rw [hcell, hget, if_neg (by omega)]
            simpa [World.cell?, e, ha] using h2
        · exact (cell_eq (hother _ e)).trans h2
      · obtain ⟨q1, q2, arr2, t2, fr2, q3, q4, q5⟩ := B2.own hr2
        by_cases e : L2.blk = L.blk
        · rw [e, ha] at q3; cases q3
          exact ⟨q1, q2, arr', t, fr, by rw [e]; exact ha', hsz'.trans q4, q5⟩
        · exact ⟨q1, q2, arr2, t2, fr2, (hother _ e).trans q3, q4, q5⟩
  · have : h.size + 1 ≤ x := by rw [← hps]; exact hx
    rw [Ren.add_ne (by omega)]; exact H.fresh x (by omega)
  · rcases old b1 k1 h1 with ⟨rfl, rfl⟩ | ⟨n1, g1⟩ <;> rcases old b2 k2 h2 with ⟨rfl, rfl⟩ | ⟨n2, g2⟩
    · rfl
    · rw [Ren.add_self] at r1; cases r1
      rw [Ren.add_ne n2] at r2
      obtain ⟨k0, g0, q⟩ := Heap.past_back hk o c g2
      have := H.sep b b2 k k0 L L2 hk g0 hL r2 hr (q.2.2.2.1 ▸ o2) he
      rw [q.2.2.1]; exact this
    · rw [Ren.add_self] at r2; cases r2
      rw [Ren.add_ne n1] at r1
      obtain ⟨k0, g0, q⟩ := Heap.past_back hk o c g1
      have := H.sep b1 b k0 k L1 L g0 hk r1 hL (q.2.2.2.1 ▸ o1) hr he
      rw [q.2.2.1]; exact this
    · rw [Ren.add_ne n1] at r1; rw [Ren.add_ne n2] at r2
      exact K.sep b1 b2 k1 k2 L1 L2 g1 g2 r1 r2 o1 o2 he
  · rcases old b1 k1 h1 with ⟨rfl, rfl⟩ | ⟨n1, g1⟩ <;> rcases old b2 k2 h2 with ⟨rfl, rfl⟩ | ⟨n2, g2⟩
    · exact absurd rfl hne
    · rw [Ren.add_self] at r1; cases r1
      rw [Ren.add_ne n2] at r2
      have := H.past_ends hk hL hl hr g2 r2 o2 l2 he.symm
      refine ⟨?_, this.2⟩
      have := this.1
      simp only [List.length_append, hpl]; omega
    · rw [Ren.add_self] at r2; cases r2
      rw [Ren.add_ne n1] at r1
      have := (H.past_ends hk hL hl hr g1 r1 o1 l1 he).2
      rw [this] at t1; cases t1
    · rw [Ren.add_ne n1] at r1; rw [Ren.add_ne n2] at r2
      exact K.tails b1 b2 k1 k2 L1 L2 hne g1 g2 r1 r2 o1 o2 l1 l2 t1 he

/-- An append that moved. -/
theorem HRel.grownNew (H : HRel P w0 ρ h w) {b : Nat} {k : Blk} {L : Loc} (hk : h.get b = some k) (hL : ρ b = some L) {o c : Nat} {news : List Value}
    (hb : Below w.heap.size w w1) {arr : Array Value} {t : TypeId} (ha : w1.heap[w.heap.size]? = some (.cells arr t (0, 0))) (hti : ∃ it, P.info? t = some it ∧ it.size = L.sz)
    (hc : ((k.cells.drop o).take c ++ news).length ≤ arr.size) (hv : ∀ (j : Nat) (v : Value), ((k.cells.drop o).take c ++ news)[j]? = some v → one v = true ∧ ∃ v', arr[j]? = some v' ∧ VR ρ v v') :
    HRel P w0 (Ren.add ρ h.size ⟨w.heap.size, 0, L.sz, arr.size, false⟩) (h.grow b k o c news) w1 := by
  have B := H.br hk hL
  obtain ⟨i, hi, hs⟩ := B.info
  have := (H.past hk o c).pushed (f := k.fam) (by rw [Heap.past_size]; exact Nat.le_of_lt (Nat.lt_of_le_of_lt (H.fam b k hk) (H.lt hk))) hi hb ha ⟨Nat.le_refl _, fun o _ => by simp, by rw [hs]; exact hti, fun _ => by simp⟩ hc hv
  rw [Heap.past_size, hs] at this
  exact this
end
end Go.Proofs.YthmpaddhmgnkbaaDoor.Am
end
section
/- The frame Am, third text: the operations that only reckon or read, told of abstract values, and that a world's run of them agrees. Nothing of a program stands here. -/
set_option linter.unusedVariables false
set_option linter.unusedSimpArgs false
namespace Go.Proofs.YthmpaddhmgnkbaaDoor.Am
open Go Go.RowKit

abbrev Tm := Nat → Value
def ev (tm : Tm) : Operand → Value
  | .tmp t => tm t
  | .const v => v
  | .global g => .pointer (some ⟨g, 0, none⟩)
  | .func f => .func (.func f) #[] #[]

/-- Constants: values that lead nowhere. -/
def constOk : Value → Bool
  | .bool _ => true
  | .int _ _ => true
  | .string _ => true
  | .pointer none => true
  | .nilFunc => true
  | .nilIface => true
  | .map none => true
  | .slice none 0 0 => true
  | .iface _ (.bool _) => true
  | .iface _ (.int _ _) => true
  | .iface _ (.string _) => true
  | .tuple xs => xs.size == 0
  | _ => false
theorem constOk_VR {ρ : Ren} {v : Value} (h : constOk v = true) : VR ρ v v := by
  unfold constOk at h
  split at h
  · exact VR.bool _
  · exact VR.int _ _
  · exact VR.string _
  · exact VR.nilptr
  · exact VR.nilFunc
  · exact VR.nilIface
  · exact VR.nilmap
  · exact VR.nilslice
  · exact VR.iface (VR.bool _)
  · exact VR.iface (VR.int _ _)
  · exact VR.iface (VR.string _)
  · rename_i xs
    have : xs = #[] := by simpa using h
    subst this
    exact VR.tuple AR.nil
  · cases h

def oprOk (P : Program) (n : Nat) : Operand → Bool
  | .tmp t => t < n
  | .const v => constOk v
  | .global g => g < P.globals.size
  | .func _ => true

structure TR (ρ : Ren) (n : Nat) (tm : Tm) (a : Act) : Prop where
  size : a.tmps.size = n
  vals : ∀ t, t < n → VR ρ (tm t) (a.tmps.getD t undef)

section
variable {P : Program} {w0 w : World} {ρ : Ren} {h : Heap} {n : Nat} {tm : Tm} {a : Act}
theorem TR.mono {ρ' : Ren} (T : TR ρ n tm a) (hρ : RenLe ρ ρ') : TR ρ' n tm a := ⟨T.size, fun t ht => (T.vals t ht).mono hρ⟩
theorem ev_rel (H : HRel P w0 ρ h w) (T : TR ρ n tm a) {x : Operand} (hx : oprOk P n x = true) : VR ρ (ev tm x) (a.eval x) := by
  cases x with
  | tmp t => exact T.vals t (by simpa [oprOk] using hx)
  | const v => exact constOk_VR hx
  | global g =>
    obtain ⟨L, h1, h2, h3⟩ := H.globs g (by simpa [oprOk] using hx)
    exact VR.ptr ⟨rfl, L, h1, by simp [h2, h3]⟩
  | func f => exact VR.func rfl AR.nil AR.nil
end

def isAggD : TypeDesc → Bool
  | .struct _ => true
  | .array _ _ => true
  | _ => false
def asz (P : Program) (t : TypeId) : Option Nat := (P.info? t).map (·.size)
theorem run_isAgg {P : Program} {t : TypeId} {d : TypeDesc} (ht : P.underlying t = some d) (w : World) : (isAgg t).run P w = .ok (isAggD d) w := by
  simp only [isAgg, Sem.run_bind, run_underlying ht, Result.andThen_ok]
  cases d <;> rfl
theorem run_sizeOf {P : Program} {t : TypeId} {s : Nat} (ht : asz P t = some s) (w : World) : (sizeOf t).run P w = .ok s w := by
  obtain ⟨i, hi, rfl⟩ := Option.map_eq_some_iff.1 ht
  simp [sizeOf, typeInfo, hi]
theorem add_plain' (b o k : Nat) : (⟨b, o, none⟩ : Addr).add k = ⟨b, o + k, none⟩ := by unfold Addr.add; split <;> simp_all

/-! ### Reading -/
def aload (P : Program) (h : Heap) (t : TypeId) (a : Addr) : Option Value :=
  match h.get a.block with
  | none => none
  | some k =>
    if k.live = true then
      match P.underlying t with
      | none => none
      | some d =>
        if isAggD d = true then
          match asz P t with
          | none => none
          | some s => if a.off + s ≤ k.cells.length then some (.agg ((k.cells.drop a.off).take s).toArray) else none
        else k.cells[a.off]?
    else none
section
variable {P : Program} {w0 w : World} {ρ : Ren} {h : Heap}
theorem load_rel (H : HRel P w0 ρ h w) {t : TypeId} {a a' : Addr} (ha : PR ρ a a') {v : Value} (hv : aload P h t a = some v) :
    ∃ v', (loadVar t a').run P w = .ok v' w ∧ VR ρ v v' := by
  obtain ⟨hs, L, hL, rfl⟩ := ha
  unfold aload at hv
  split at hv
  · cases hv
  rename_i k hk
  split at hv
  · rename_i hl
    have B := H.br hk hL
    split at hv
    · cases hv
    rename_i d hd
    split at hv
    · rename_i hagg
      split at hv
      · cases hv
      rename_i s hsz
      split at hv
      · rename_i hle
        cases hv
        have rd : ∀ j, j < s → ∃ v', w.cell? ((⟨L.blk, L.off + a.off, none⟩ : Addr).add j) = some v' ∧ ∀ u, k.cells[a.off + j]? = some u → VR ρ u v' := fun j hj => by
          obtain ⟨_, v', h2, h3⟩ := B.reads hl (a.off + j) (k.cells[a.off + j]'(by omega)) (List.getElem?_eq_getElem _)
          refine ⟨v', by rw [add_plain', ← h2]; simp only [Nat.add_assoc], fun u hu => ?_⟩
          rw [List.getElem?_eq_getElem (by omega)] at hu; cases hu; exact h3
        let f : Nat → Value := fun j => (w.cell? ((⟨L.blk, L.off + a.off, none⟩ : Addr).add j)).getD undef
        have hf : ∀ j, j < s → w.cell? ((⟨L.blk, L.off + a.off, none⟩ : Addr).add j) = some (f j) := fun j hj => by
          obtain ⟨v', h1, _⟩ := rd j hj
          simp only [f, h1, Option.getD_some]
        have hrun := run_loadCells (P := P) (w := w) (⟨L.blk, L.off + a.off, none⟩ : Addr) s f hf
        refine ⟨.agg ((List.range s).map f).toArray, by simp only [loadVar, Sem.run_bind, run_isAgg hd, hagg, Result.andThen_ok, if_true, run_sizeOf hsz, hrun, Sem.run_pure], VR.agg ⟨by simp; omega, fun i x y hx hy => ?_⟩⟩
        have hi : i < s := by
          have := (Array.getElem?_eq_some_iff.1 hx).1
          simp at this; omega
        obtain ⟨v', h1, h2⟩ := rd i hi
        have hx' : k.cells[a.off + i]? = some x := by
          rw [List.getElem?_toArray, part_get hi] at hx; exact hx
        have hy' : y = v' := by
          simp [hi] at hy
          have := hf i hi
          rw [h1] at this; cases this; exact hy.symm
        subst hy'
        exact h2 x hx'
      · cases hv
    · rename_i hagg
      obtain ⟨_, v', h2, h3⟩ := B.reads hl a.off v hv
      refine ⟨v', ?_, h3⟩
      simp only [loadVar, Sem.run_bind, run_isAgg hd, Result.andThen_ok, if_neg hagg, run_load, h2]
  · cases hv
end

/-! ### Slicing, indexing, fields -/
def boundOf : Option Value → Nat → Nat → Option Nat
  | none, d, _ => some d
  | some (.int _ i), _, m => if 0 ≤ i ∧ i ≤ (m : Int) then some i.toNat else none
  | some _, _, _ => none
def OR (ρ : Ren) : Option Value → Option Value → Prop
  | none, none => True
  | some x, some y => VR ρ x y
  | _, _ => False
theorem boundOf_le {x : Option Value} {d m r : Nat} (hr : boundOf x d m = some r) (hd : d ≤ m) : r ≤ m := by
  unfold boundOf at hr
  split at hr
  · cases hr; exact hd
  · split at hr
    · cases hr; omega
    · cases hr
  · cases hr
theorem boundOf_some_le {z : Value} {d m r : Nat} (hr : boundOf (some z) d m = some r) : r ≤ m := by
  unfold boundOf at hr
  split at hr
  · rename_i e; cases e
  · split at hr
    · cases hr; omega
    · cases hr
  · cases hr
def aslice (P : Program) (h : Heap) (t : TypeId) (x : Value) (lo hi mx : Option Value) : Option Value :=
  match P.underlying t, x with
  | some .string, .string s =>
    match mx with
    | some _ => none
    | none =>
      match boundOf hi s.size s.size with
      | none => none
      | some H => match boundOf lo 0 H with
        | none => none
        | some L => some (.string (s.extract L H))
  | some (.slice e), .slice none n _ =>
    if n = 0 ∧ (asz P e).isSome = true then
      match boundOf mx 0 0 with
      | none => none
      | some _ => match boundOf hi 0 0 with
        | none => none
        | some _ => match boundOf lo 0 0 with
          | none => none
          | some _ => if mx.isSome = true ∧ hi.isSome = false then none else some (.slice none 0 0)
    else none
  | some (.slice e), .slice (some a) n c =>
    match h.get a.block, asz P e with
    | some k, some s =>
      if asz P k.elem = some s then
        match boundOf mx (if c = 0 then n else max n (c - 1)) (if c = 0 then n else max n (c - 1)) with
        | none => none
        | some m => match boundOf hi n m with
          | none => none
          | some H => match boundOf lo 0 H with
            | none => none
            | some L => if mx.isSome = true ∧ hi.isSome = false then none else some (.slice (some ⟨a.block, a.off + L * s, none⟩) (H - L) (if mx.isSome = true then m - L + 1 else if c = 0 then 0 else c - 1 - L + 1))
      else none
    | _, _ => none
  | _, _ => none

section
variable {P : Program} {w0 w : World} {ρ : Ren} {h : Heap}
theorem bound_rel {x : Value} {x' : Value} (hx : VR ρ x x') {d m m' r : Nat} (hm : m ≤ m') (hr : boundOf (some x) d m = some r) (code : BoundsCode) :
    (Instr.sliceBound x' m' code).run P w = .ok r w := by
  unfold boundOf at hr
  split at hr
  · rename_i e; cases e
  · rename_i k i e
    cases e
    split at hr
    · rename_i hb
      cases hr
      rw [hx.int_inv]
      simp only [Instr.sliceBound, asIntOf, Sem.run_bind, Sem.run_pure, Result.andThen_ok]
      rw [if_pos ⟨hb.1, by omega⟩]; rfl
    · cases hr
  · cases hr
theorem bounds_rel {lo hi mx lo' hi' mx' : Option Value} (h1 : OR ρ lo lo') (h2 : OR ρ hi hi') (h3 : OR ρ mx mx') {len capA cap : Nat} (hc : capA ≤ cap) {isSlice : Bool}
    {m H L : Nat} (hm : boundOf mx capA capA = some m) (hH : boundOf hi len m = some H) (hL : boundOf lo 0 H = some L) (hmh : ¬ (mx.isSome = true ∧ hi.isSome = false)) :
    (Instr.sliceBounds isSlice len cap lo' hi' mx').run P w = .ok (L, H, if mx.isSome = true then m else cap) w := by
  have e3 : mx'.isSome = mx.isSome := by cases mx <;> cases mx' <;> first | rfl | exact h3.elim
  have hmc : m ≤ cap := Nat.le_trans (boundOf_le hm (Nat.le_refl _)) hc
  cases mx with
  | none =>
    cases mx' with
    | some _ => exact h3.elim
    | none =>
      cases hm
      cases hi with
      | none =>
        cases hi' with
        | some _ => exact h2.elim
        | none =>
          cases hH
          cases lo with
          | none => cases lo' with
            | some _ => exact h1.elim
            | none => cases hL; simp [Instr.sliceBounds]
          | some l => cases lo' with
            | none => exact h1.elim
            | some l' => simp [Instr.sliceBounds, bound_rel (P := P) (w := w) h1 (Nat.le_refl _) hL]
      | some x => cases hi' with
        | none => exact h2.elim
        | some x' =>
          have hh := fun code => bound_rel (P := P) (w := w) h2 hc hH code
          cases lo with
          | none => cases lo' with
            | some _ => exact h1.elim
            | none => cases hL; simp [Instr.sliceBounds, hh]
          | some l => cases lo' with
            | none => exact h1.elim
            | some l' => simp [Instr.sliceBounds, hh, bound_rel (P := P) (w := w) h1 (Nat.le_refl _) hL]
  | some y =>
    cases mx' with
    | none => exact h3.elim
    | some y' =>
      have hy := fun code => bound_rel (P := P) (w := w) h3 hc hm code
      cases hi with
      | none => exact absurd ⟨rfl, rfl⟩ hmh
      | some x => cases hi' with
        | none => exact h2.elim
        | some x' =>
          have hh := fun code => bound_rel (P := P) (w := w) h2 (Nat.le_refl m) hH code
          cases lo with
          | none => cases lo' with
            | some _ => exact h1.elim
            | none => cases hL; simp [Instr.sliceBounds, hy, hh]
          | some l => cases lo' with
            | none => exact h1.elim
            | some l' => simp [Instr.sliceBounds, hy, hh, bound_rel (P := P) (w := w) h1 (Nat.le_refl _) hL]

theorem slice_rel (H : HRel P w0 ρ h w) {t : TypeId} {x x' : Value} (hx : VR ρ x x') {lo hi mx lo' hi' mx' : Option Value} (h1 : OR ρ lo lo') (h2 : OR ρ hi hi') (h3 : OR ρ mx mx')
    {v : Value} (hv : aslice P h t x lo hi mx = some v) : ∃ v', (Instr.sliceAt t x' lo' hi' mx').run P w = .ok v' w ∧ VR ρ v v' := by
  unfold aslice at hv
  split at hv
  · rename_i s hd
    split at hv
    · cases hv
    cases mx' with
    | some _ => exact h3.elim
    | none =>
      split at hv
      · cases hv
      rename_i Hh hH
      split at hv
      · cases hv
      rename_i L hL
      cases hv
      rw [hx.string_inv]
      have hb := bounds_rel (P := P) (w := w) (isSlice := false) (mx := none) (mx' := none) h1 h2 trivial (Nat.le_refl s.size) rfl hH hL (by simp)
      refine ⟨_, ?_, VR.string _⟩
      simp [Instr.sliceAt, Instr.slice, run_underlying hd, hb]
  · rename_i e n c hd
    split at hv
    · rename_i hn
      obtain ⟨hn, hsome⟩ := hn
      split at hv
      · cases hv
      rename_i m hm
      split at hv
      · cases hv
      rename_i Hh hH
      split at hv
      · cases hv
      rename_i L hL
      split at hv
      · cases hv
      rename_i hmh
      cases hv
      subst hn
      obtain ⟨a', c', rfl, hS⟩ := hx.slice_inv
      cases a' with
      | some _ => exact hS.2.2.2.elim
      | none =>
        have hc0 : c' = 0 := hS.2.2.2
        subst hc0
        obtain rfl : m = 0 := by have := boundOf_le hm (Nat.le_refl _); omega
        obtain rfl : Hh = 0 := by have := boundOf_le hH (Nat.le_refl _); omega
        have hb := bounds_rel (P := P) (w := w) (isSlice := true) h1 h2 h3 (Nat.le_refl 0) hm hH hL hmh
        obtain rfl : L = 0 := by have := boundOf_le hL (Nat.le_refl _); omega
        obtain ⟨s, hsz⟩ := Option.isSome_iff_exists.1 hsome
        refine ⟨_, by simp [Instr.sliceAt, Instr.slice, run_underlying hd, hb, run_sizeOf hsz], VR.nilslice⟩
    · cases hv
  · rename_i e a n c hd
    split at hv
    · rename_i k s hk hs
      split at hv
      · rename_i hke
        split at hv
        · cases hv
        rename_i m hm
        split at hv
        · cases hv
        rename_i Hh hH
        split at hv
        · cases hv
        rename_i L hL
        split at hv
        · cases hv
        rename_i hmh
        cases hv
        obtain ⟨a', c', rfl, hn, hnc, hcc, hS⟩ := hx.slice_inv
        cases a' with
        | none => exact hS.elim
        | some x' =>
          have htop : (if c = 0 then n else max n (c - 1)) ≤ c' := by split <;> omega
          have hb := bounds_rel (P := P) (w := w) (isSlice := true) h1 h2 h3 htop hm hH hL hmh
          have hLH : L ≤ Hh := boundOf_le hL (Nat.zero_le _)
          have hrun := fun hrun => (show (Instr.sliceAt t (.slice (some x') n c') lo' hi' mx').run P w = .ok (.slice (if (if mx.isSome = true then m else c') = L then some x' else some (x'.add (L * s))) (Hh - L) ((if mx.isSome = true then m else c') - L)) w from hrun)
          refine ⟨_, hrun (by simp [Instr.sliceAt, Instr.slice, run_underlying hd, hb, run_sizeOf hs]), VR.slice ?_⟩
          have hmc : m ≤ c' := Nat.le_trans (boundOf_le hm (Nat.le_refl _)) htop
          have hHm : Hh ≤ (if mx.isSome = true then m else c') := by
            cases mx with
            | some y =>
              cases hi with
              | none => exact absurd ⟨rfl, rfl⟩ hmh
              | some z => exact boundOf_some_le hH
            | none =>
              cases hi with
              | none => cases hH; exact hnc
              | some z => exact Nat.le_trans (boundOf_some_le hH) hmc
          refine ⟨rfl, by omega, ?_, ?_⟩
          · cases mx with
            | some y => right; simp only [Option.isSome_some, if_true]
            | none =>
              simp only [Option.isSome_none, Bool.false_eq_true, if_false]
              by_cases hc0 : c = 0
              · left; rw [if_pos hc0]
              · right; rw [if_neg hc0]
                rcases hcc with h0 | h0
                · exact absurd h0 hc0
                · rw [h0]; rfl
          · rcases hS with ⟨hsp, L0, hL0, hx', hroom⟩ | hex
            · by_cases hml : (if mx.isSome = true then m else c') = L
              · rw [if_pos hml]; right; omega
              · rw [if_neg hml]; left
                refine ⟨rfl, L0, hL0, ?_, ?_⟩
                · subst hx'; rw [add_plain']; simp only [Addr.mk.injEq, and_true, true_and]; omega
                · have B := H.br hk hL0
                  obtain ⟨i, hi1, hi2⟩ := B.info
                  have hsz : L0.sz = s := by
                    simp only [asz, hi1, Option.map_some, Option.some.injEq] at hke
                    omega
                  have hle : L ≤ (if mx.isSome = true then m else c') := by omega
                  have hcap : (if mx.isSome = true then m else c') ≤ c' := by split <;> omega
                  generalize (if mx.isSome = true then m else c') = M at *
                  have h4 : L * s + (M - L) * L0.sz = M * s := by rw [hsz, ← Nat.add_mul]; congr 1; omega
                  have h5 : M * s ≤ c' * L0.sz := by rw [hsz]; exact Nat.mul_le_mul_right _ hcap
                  simp only
                  omega
            · have hcap : (if mx.isSome = true then m else c') ≤ c' := by split <;> omega
              have h0 : (if mx.isSome = true then m else c') = 0 := by omega
              have hL0 : L = 0 := by omega
              rw [h0, hL0]; right; rfl
      · cases hv
    · cases hv
  · cases hv
end
end Go.Proofs.YthmpaddhmgnkbaaDoor.Am
end
