/- The texts of this seat, one behind another (part 17 of 25): the frame (an abstract machine), the contracts of functions, the laws. -/
import Derived.Test.YthmpaddhmgnkbaaDoorZ10
import Derived.ChangeSame
import Derived.ChangeSlices
section
/- The frame Am, a text beside the others: a world at a call's begin, told of an abstract heap of what is handed in; from an abstract contract to a contract of the model. Nothing of a program stands here. -/
set_option linter.unusedVariables false
set_option linter.unusedSimpArgs false
namespace Go.Proofs.YthmpaddhmgnkbaaDoor.Am
open Go Go.RowKit Go.ChangeShapes

def inBlk (e : TypeId) (cells : List Value) : Blk := ⟨cells, e, 0, true, false, true⟩
def startHeap (bs : List (Blk × Loc)) : Heap := ⟨bs.length, fun b => (bs[b]?).map (·.1), fun _ => none⟩
def startRen (bs : List (Blk × Loc)) : Ren := fun b => (bs[b]?).map fun x => ⟨x.2.blk, x.2.off, x.2.sz, x.2.top, false⟩
/-- What a block that is handed in asks of the world. -/
def Lies (P : Program) (W : World) (ρ : Ren) (x : Blk × Loc) : Prop :=
  x.1.ro = true ∧ x.1.fam = 0 ∧ x.2.blk < W.heap.size ∧ (∃ i, P.info? x.1.elem = some i ∧ i.size = x.2.sz) ∧
  ∀ i v, x.1.cells[i]? = some v → one v = true ∧ ∃ v', W.cell? ⟨x.2.blk, x.2.off + i, none⟩ = some v' ∧ VR ρ v v'
/-- The same of the block of a place: one of a family tells how large it is. -/
def LiesAt (P : Program) (W : World) (ρ : Ren) (i : Nat) (x : Blk × Loc) : Prop :=
  x.1.ro = true ∧ x.1.fam ≤ i ∧ (x.1.fam ≠ 0 → ∃ arr t fr, W.heap[x.2.blk]? = some (.cells arr t fr) ∧ arr.size = x.2.off + x.1.cells.length) ∧ x.2.blk < W.heap.size ∧ (∃ i, P.info? x.1.elem = some i ∧ i.size = x.2.sz) ∧
  ∀ i v, x.1.cells[i]? = some v → one v = true ∧ ∃ v', W.cell? ⟨x.2.blk, x.2.off + i, none⟩ = some v' ∧ VR ρ v v'
theorem Lies.at {P : Program} {W : World} {ρ : Ren} {i : Nat} {x : Blk × Loc} (h : Lies P W ρ x) : LiesAt P W ρ i x := by
  obtain ⟨g1, g2, g3, g4, g5⟩ := h
  exact ⟨g1, by rw [g2]; exact Nat.zero_le _, fun e => absurd g2 e, g3, g4, g5⟩
theorem HRel.startAt {P : Program} {W : World} {bs : List (Blk × Loc)} (hall : ∀ (i : Nat) x, bs[i]? = some x → LiesAt P W (startRen bs) i x) (hg : ∀ g, g < P.globals.size → ∃ x, bs[g]? = some x ∧ x.2.blk = g ∧ x.2.off = 0) : HRel P W (startRen bs) (startHeap bs) W := by
  have get : ∀ b k, (startHeap bs).get b = some k → ∃ L, bs[b]? = some (k, L) := fun b k hk => by
    simp only [startHeap, Option.map_eq_some_iff] at hk
    obtain ⟨⟨k0, L⟩, h1, rfl⟩ := hk
    exact ⟨L, h1⟩
  have ro : ∀ b k, (startHeap bs).get b = some k → k.ro = true := fun b k hk => by
    obtain ⟨L, h1⟩ := get b k hk
    exact (hall _ _ h1).1
  refine ⟨Below.refl _ _, fun b hb => ?_, fun b k hk => ?_, fun b k hk => ?_, fun b hb => ?_, fun b1 b2 k1 k2 L1 L2 h1 h2 r1 r2 o1 o2 he => ?_, fun b1 b2 k1 k2 L1 L2 hne h1 h2 r1 r2 o1 => ?_, fun g hgg => ?_, ?_⟩
  · have : bs[b]? = none := List.getElem?_eq_none hb
    simp [startHeap, this]
  · obtain ⟨L, h1⟩ := get b k hk
    exact (hall _ _ h1).2.1
  · obtain ⟨L, h1⟩ := get b k hk
    obtain ⟨g1, g2, g6, g3, g4, g5⟩ := hall _ _ h1
    exact ⟨⟨L.blk, L.off, L.sz, L.top, false⟩, by simp [startRen, h1], { reads := fun _ => g5, came := fun _ => g3, own := fun h => (by simp only at g1; rw [g1] at h; exact absurd h (by decide)), info := g4, whole := fun _ h => g6 h }⟩
  · have : bs[b]? = none := List.getElem?_eq_none hb
    simp [startRen, this]
  · rw [ro b1 k1 h1] at o1; cases o1
  · rw [ro b1 k1 h1] at o1; cases o1
  · obtain ⟨x, h1, h2, h3⟩ := hg g hgg
    exact ⟨⟨x.2.blk, x.2.off, x.2.sz, x.2.top, false⟩, by simp [startRen, h1], h2, h3⟩
  · have nomk : ∀ b L, startRen bs b = some L → L.mrk = true → False := fun b L hL hm => by
      simp only [startRen, Option.map_eq_some_iff] at hL
      obtain ⟨x, _, rfl⟩ := hL
      cases hm
    exact { objs := fun b ao h => (by cases h), objsep := fun b1 b2 a1 a2 L1 L2 _ h => (by cases h), marks := fun b L hL hm => (nomk b L hL hm).elim, marksep := fun b1 b2 L1 L2 _ r1 _ m1 => (nomk b1 L1 r1 m1).elim }
theorem HRel.start {P : Program} {W : World} {bs : List (Blk × Loc)} (hall : ∀ x, x ∈ bs → Lies P W (startRen bs) x) (hg : ∀ g, g < P.globals.size → ∃ x, bs[g]? = some x ∧ x.2.blk = g ∧ x.2.off = 0) : HRel P W (startRen bs) (startHeap bs) W :=
  HRel.startAt (fun i x h => (hall x (List.mem_of_getElem? h)).at) hg
/-- A law's contract told of the model: it answers true, and of what was there nothing has changed. -/
theorem ACalls.below {P : Program} {W : World} {bs : List (Blk × Loc)} {f : FuncId} {args args' : Array Value} {Q : Heap → Prop} (H : HRel P W (startRen bs) (startHeap bs) W) (hA : AR (startRen bs) args args')
    (C : ACalls P f args (startHeap bs) (fun v h' => v = .bool true ∧ Q h')) : Calls P f args' W fun e W' => e = .returned (.bool true) ∧ Below W.heap.size W W' := by
  refine (C W _ W args' H hA).mono fun e W' ⟨ρ', h', v, v', r, H', hv, hq⟩ => ?_
  rcases hq with ⟨rfl, rfl, _⟩ | ⟨_, hq⟩
  · rw [hv.bool_inv]; exact ⟨rfl, H'.below⟩
  · exact hq.elim
/-- The post of a row that hands its arguments back as they were. -/
theorem post_of_below {H : Type} {enc : TypeId × Value → H} {P : Program} {f : Func} {s : ChangeSpec} {apart fresh handsOn : Bool} {W W' : World} {args : Array Value} {v : Value} {ds gs : List (DataW H)} {before pa pv : List MemPlace}
    (hW : DataW.Whole enc P f.params.toList s.vars apart W args.toList ds gs before)
    (hres : ∀ (b : Nat) (sp : Nat → Bool) (hd : Bool), DataW.TrodAll enc P W' b sp hd f.resultTypes.toList (v.resultList f.resultTypes.size) (s.fn H (ds ++ gs)).results [])
    (hargs : ∀ sp : Nat → Bool, (∀ p ∈ before, sp p.block = true) → DataW.TrodAll enc P W' 0 sp true f.params.toList args.toList (s.fn H (ds ++ gs)).args pa)
    (hvars : ∀ sp : Nat → Bool, (∀ p ∈ before, sp p.block = true) → DataW.TrodVars enc P W' sp s.vars (s.fn H (ds ++ gs)).vars pv)
    (hps : before = pa ++ pv) (hk : W.keptBut W' (· ∈ before)) :
    s.post enc P f apart fresh handsOn false W args v W' := by
  have hold : ∀ p ∈ before, (fun b => decide (b < W.heap.size)) p.block = true := fun p hp => by simpa using hW.lt p hp
  refine ⟨ds, gs, before, [], pa, pv, hW, hres _ _ _, hargs _ hold, hvars _ hold, World.keptBut_mono (fun p hp => ⟨hp, ?_⟩) hk, fun h => by cases h⟩
  rw [hps, List.mem_append] at hp
  exact Or.inr hp
end Go.Proofs.YthmpaddhmgnkbaaDoor.Am
end
