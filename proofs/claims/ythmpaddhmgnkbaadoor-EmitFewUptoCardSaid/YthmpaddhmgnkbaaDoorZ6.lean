/- The texts of this seat, one behind another (part 6 of 25): the frame (an abstract machine), the contracts of functions, the laws. -/
import Derived.Test.YthmpaddhmgnkbaaDoorZ5
import Derived.Laws.IdiomStrings
section
/- The frame Am, a text ahead of the ninth: objects that lie beside the cells: where they are made or turned; maps with whole numbers for keys, told. Nothing of a program stands here. -/
set_option linter.unusedVariables false
set_option linter.unusedSimpArgs false
namespace Go.Proofs.YthmpaddhmgnkbaaDoor.Am
open Go Go.RowKit
section
variable {P : Program} {w0 w : World} {ρ : Ren} {h : Heap}
theorem HRel.beside (H : HRel P w0 ρ h w) {l : Nat} {o o' : Obj} (hl : w0.heap.size ≤ l) (ho : w.heap[l]? = some o) (hc : cellsO o = false) {h' : Heap} (hs : h'.size = h.size) (hg : h'.get = h.get) (M : More w0 ρ h' (w.putObj l o')) : HRel P w0 ρ h' (w.putObj l o') := by
  have oth : ∀ x, x ≠ l → (w.putObj l o').heap[x]? = w.heap[x]? := fun x hx => World.putObj_heap_other hx
  refine ⟨⟨H.below.os, H.below.tape, H.below.output, by rw [World.putObj_size]; exact H.below.size, fun x hx => (oth x (by omega)).trans (H.below.block x hx)⟩, fun b hb => by rw [hg]; exact H.dom b (by omega), fun b k hk => H.fam b k (by rw [← hg]; exact hk), fun b k hk => ?_, fun b hb => H.fresh b (by omega),
    fun b1 b2 k1 k2 L1 L2 h1 h2 => H.sep b1 b2 k1 k2 L1 L2 (by rw [← hg]; exact h1) (by rw [← hg]; exact h2), fun b1 b2 k1 k2 L1 L2 hne h1 h2 => H.tails b1 b2 k1 k2 L1 L2 hne (by rw [← hg]; exact h1) (by rw [← hg]; exact h2), H.globs, M⟩
  rw [hg] at hk
  obtain ⟨L, hL, B⟩ := H.lies b k hk
  refine ⟨L, hL, fun hl' i v hv => ?_, B.came, fun hr => ?_, B.info, B.whole⟩
  · obtain ⟨q1, v', q2, q3⟩ := B.reads hl' i v hv
    refine ⟨q1, v', (cell_eq (oth _ ?_)).trans q2, q3⟩
    intro e
    simp only [World.cell?, e, ho] at q2
    cases o <;> simp_all [cellsO]
  · obtain ⟨q1, q2, arr, t, fr, q3, q4⟩ := B.own hr
    exact ⟨q1, q2, arr, t, fr, (oth _ fun e => by rw [e, ho] at q3; cases q3; cases hc).trans q3, q4⟩
theorem HRel.oput (H : HRel P w0 ρ h w) {b : Nat} {ao ao' : AObj} {L : Loc} {o' : Obj} (hb : h.obj b = some ao) (hL : ρ b = some L) (hr : ObjR ρ ao' o') : HRel P w0 ρ (h.oput b ao') (w.putObj L.blk o') := by
  obtain ⟨hlt, L', o, g1, g2, g3, g4, g5⟩ := H.mo.objs b ao hb
  rw [hL] at g1; cases g1
  have oth : ∀ x, x ≠ L.blk → (w.putObj L.blk o').heap[x]? = w.heap[x]? := fun x hx => World.putObj_heap_other hx
  refine H.beside g3 g4 g5.kind.1 rfl rfl ⟨fun x a hx => ?_, fun b1 b2 a1 a2 L1 L2 hne h1 h2 => ?_, fun x L2 hx hm => ?_, H.mo.marksep⟩
  · by_cases e : x = b
    · subst e
      simp only [Heap.oput, if_true, Option.some.injEq] at hx
      subst hx
      exact ⟨hlt, L, o', hL, g2, g3, World.putObj_heap_same (Array.getElem?_eq_some_iff.1 g4).1, hr⟩
    · simp only [Heap.oput, if_neg e] at hx
      obtain ⟨q1, L2, o2, q2, q3, q4, q5, q6⟩ := H.mo.objs x a hx
      exact ⟨q1, L2, o2, q2, q3, q4, (oth _ (H.mo.objsep x b a ao L2 L e hx hb q2 hL)).trans q5, q6⟩
  · have back : ∀ x a, (h.oput b ao').obj x = some a → ∃ a', h.obj x = some a' := fun x a hx => by
      by_cases e : x = b
      · subst e; exact ⟨_, hb⟩
      · simp only [Heap.oput, if_neg e] at hx; exact ⟨_, hx⟩
    obtain ⟨c1, e1⟩ := back _ _ h1
    obtain ⟨c2, e2⟩ := back _ _ h2
    exact H.mo.objsep b1 b2 c1 c2 L1 L2 hne e1 e2
  · obtain ⟨q1, q2⟩ := H.mo.marks x L2 hx hm
    refine ⟨q1, (oth _ fun e => ?_).trans q2⟩
    rw [e, g4] at q2; cases q2
    have := g5.kind.2; cases this
/-- A place more, behind all there were. -/
theorem HRel.aside (H : HRel P w0 ρ h w) {o : Obj} {L : Loc} {h' : Heap} (hs : h'.size = h.size + 1) (hg : h'.get = h.get) (M : More w0 (Ren.add ρ h.size L) h' (w.alloc o)) : HRel P w0 (Ren.add ρ h.size L) h' (w.alloc o) := by
  have K := H.keep (below_alloc' w o)
  have hle := H.le_add L
  have old : ∀ {b k}, h.get b = some k → Ren.add ρ h.size L b = ρ b := fun hk => Ren.add_ne (by have := H.lt hk; omega)
  refine ⟨K.below, fun b hb => by rw [hg]; exact H.dom b (by omega), fun b k hk => H.fam b k (by rw [← hg]; exact hk), fun b k hk => ?_, fun b hb => by rw [Ren.add_ne (by omega)]; exact H.fresh b (by omega),
    fun b1 b2 k1 k2 L1 L2 h1 h2 r1 r2 => ?_, fun b1 b2 k1 k2 L1 L2 hne h1 h2 r1 r2 => ?_, fun g hg => by obtain ⟨L, h1, h2⟩ := H.globs g hg; exact ⟨L, hle _ _ h1, h2⟩, M⟩
  · rw [hg] at hk
    obtain ⟨L1, hL, B⟩ := K.lies b k hk
    refine ⟨L1, hle _ _ hL, fun hl i v hv => ?_, B.came, B.own, B.info, B.whole⟩
    obtain ⟨q1, v', q2, q3⟩ := B.reads hl i v hv
    exact ⟨q1, v', q2, q3.mono hle⟩
  · rw [hg] at h1 h2
    rw [old h1] at r1; rw [old h2] at r2
    exact H.sep b1 b2 k1 k2 L1 L2 h1 h2 r1 r2
  · rw [hg] at h1 h2
    rw [old h1] at r1; rw [old h2] at r2
    exact H.tails b1 b2 k1 k2 L1 L2 hne h1 h2 r1 r2
theorem HRel.mark (H : HRel P w0 ρ h w) : HRel P w0 (Ren.add ρ h.size ⟨w.heap.size, 0, 0, 0, true⟩) h.more (w.alloc (.deferred (some []))) := by
  have hb := below_alloc' w (.deferred (some []))
  have lt : ∀ {l : Nat} {o : Obj}, w.heap[l]? = some o → l < w.heap.size := fun h => (Array.getElem?_eq_some_iff.1 h).1
  have hle := H.le_add ⟨w.heap.size, 0, 0, 0, true⟩
  refine H.aside rfl rfl ⟨fun b ao hx => ?_, fun b1 b2 a1 a2 L1 L2 hne h1 h2 r1 r2 => ?_, fun b L hL hm => ?_, fun b1 b2 L1 L2 hne r1 r2 m1 m2 => ?_⟩
  · obtain ⟨q1, L, o, q2, q3, q4, q5, q6⟩ := H.mo.objs b ao hx
    exact ⟨Nat.lt_succ_of_lt q1, L, o, hle _ _ q2, q3, q4, (hb.block _ (lt q5)).trans q5, q6.mono hle⟩
  · obtain ⟨q1, _⟩ := H.mo.objs b1 a1 h1
    obtain ⟨q2, _⟩ := H.mo.objs b2 a2 h2
    rw [Ren.add_ne (by omega)] at r1 r2
    exact H.mo.objsep b1 b2 a1 a2 L1 L2 hne h1 h2 r1 r2
  · by_cases e : b = h.size
    · subst e
      rw [Ren.add_self] at hL; cases hL
      exact ⟨H.below.size, World.alloc_heap_new w _⟩
    · rw [Ren.add_ne e] at hL
      obtain ⟨q1, q2⟩ := H.mo.marks b L hL hm
      exact ⟨q1, (hb.block _ (lt q2)).trans q2⟩
  · have blt : ∀ {b L}, ρ b = some L → L.mrk = true → L.blk < w.heap.size := fun hL hm => lt (H.mo.marks _ _ hL hm).2
    by_cases e1 : b1 = h.size <;> by_cases e2 : b2 = h.size
    · omega
    · subst e1; rw [Ren.add_self] at r1; cases r1
      rw [Ren.add_ne e2] at r2
      have := blt r2 m2
      simp only; omega
    · subst e2; rw [Ren.add_self] at r2; cases r2
      rw [Ren.add_ne e1] at r1
      have := blt r1 m1
      simp only; omega
    · rw [Ren.add_ne e1] at r1; rw [Ren.add_ne e2] at r2
      exact H.mo.marksep b1 b2 L1 L2 hne r1 r2 m1 m2
theorem HRel.opush (H : HRel P w0 ρ h w) {ao : AObj} {o : Obj} (hr : ObjR ρ ao o) : HRel P w0 (Ren.add ρ h.size ⟨w.heap.size, 0, 0, 0, false⟩) (h.opush ao) (w.alloc o) := by
  have hb := below_alloc' w o
  have lt : ∀ {l : Nat} {o : Obj}, w.heap[l]? = some o → l < w.heap.size := fun h => (Array.getElem?_eq_some_iff.1 h).1
  have hle := H.le_add ⟨w.heap.size, 0, 0, 0, false⟩
  have obj_ne : ∀ {x a}, x ≠ h.size → (h.opush ao).obj x = some a → h.obj x = some a := fun e hx => by simpa [Heap.opush, Heap.oput, Heap.more, e] using hx
  refine H.aside rfl rfl ⟨fun b a hx => ?_, fun b1 b2 a1 a2 L1 L2 hne h1 h2 r1 r2 => ?_, fun b L hL hm => ?_, fun b1 b2 L1 L2 hne r1 r2 m1 m2 => H.mo.marksep b1 b2 L1 L2 hne (Ren.add_mk rfl _ _ r1 m1) (Ren.add_mk rfl _ _ r2 m2) m1 m2⟩
  · by_cases e : b = h.size
    · subst e
      simp only [Heap.opush, Heap.oput, if_true, Option.some.injEq] at hx
      subst hx
      exact ⟨Nat.lt_succ_self _, _, o, Ren.add_self, rfl, H.below.size, World.alloc_heap_new w o, hr.mono hle⟩
    · obtain ⟨q1, L, o2, q2, q3, q4, q5, q6⟩ := H.mo.objs b a (obj_ne e hx)
      exact ⟨Nat.lt_succ_of_lt q1, L, o2, hle _ _ q2, q3, q4, (hb.block _ (lt q5)).trans q5, q6.mono hle⟩
  · have blt : ∀ {b a L}, h.obj b = some a → ρ b = some L → L.blk < w.heap.size := fun ha hL => by
      obtain ⟨_, L', o', g1, _, _, g4, _⟩ := H.mo.objs _ _ ha
      rw [hL] at g1; cases g1
      exact lt g4
    by_cases e1 : b1 = h.size <;> by_cases e2 : b2 = h.size
    · omega
    · subst e1; rw [Ren.add_self] at r1; cases r1
      rw [Ren.add_ne e2] at r2
      have := blt (obj_ne e2 h2) r2
      simp only; omega
    · subst e2; rw [Ren.add_self] at r2; cases r2
      rw [Ren.add_ne e1] at r1
      have := blt (obj_ne e1 h1) r1
      simp only; omega
    · rw [Ren.add_ne e1] at r1; rw [Ren.add_ne e2] at r2
      exact H.mo.objsep b1 b2 a1 a2 L1 L2 hne (obj_ne e1 h1) (obj_ne e2 h2) r1 r2
  · have hL' := Ren.add_mk rfl _ _ hL hm
    obtain ⟨q1, q2⟩ := H.mo.marks b L hL' hm
    exact ⟨q1, (hb.block _ (lt q2)).trans q2⟩
end
/-- The kind of a map's keys. -/
def mapOf (P : Program) (t : TypeId) : Option (IntKind × TypeId) :=
  match P.underlying t with
  | some (.map key e) => (match P.underlying key with | some (.int k) => some (k, e) | _ => none)
  | _ => none
/-- Is a key in a map, and where? -/
def findE (x : Int) : List (Int × Value) → Option Nat
  | [] => none
  | e :: es => if e.1 = x then some 0 else (findE x es).map (· + 1)
def getE (es : List (Int × Value)) (x : Int) : Option Value := (findE x es).bind fun i => es[i]?.map (·.2)
def putE (es : List (Int × Value)) (x : Int) (v : Value) : List (Int × Value) := match findE x es with | some i => es.set i (x, v) | none => es ++ [(x, v)]
def delE (es : List (Int × Value)) (x : Int) : List (Int × Value) := match findE x es with | some i => es.eraseIdx i | none => es
def amakeMap (P : Program) (h : Heap) (t : TypeId) : Option (Value × Heap) :=
  match mapOf P t with
  | some (k, _) => some (.map (some h.size), h.opush (.map k []))
  | none => none
def mapAt (h : Heap) (k : IntKind) (r : Nat) : Option (List (Int × Value)) := match h.obj r with | some (.map k' es) => if k' = k then some es else none | _ => none
def alookup (P : Program) (h : Heap) (t : TypeId) (m key : Value) (ok : Bool) : Option (Value × Heap) :=
  match mapOf P t, m, key with
  | some (k, e), .map (some r), .int k' x =>
    if k' = k then (match mapAt h k r, azero P e with
      | some es, some z => (match getE es x with
        | some v => some (if ok = true then .tuple #[v, .bool true] else v, h)
        | none => some (if ok = true then .tuple #[z, .bool false] else z, h))
      | _, _ => none) else none
  | _, _, _ => none
def amapUpdate (P : Program) (h : Heap) (t : TypeId) (m key v : Value) : Option (Value × Heap) :=
  match mapOf P t, m, key with
  | some (k, _), .map (some r), .int k' x => if k' = k then (match mapAt h k r with | some es => some (undef, h.oput r (.map k (putE es x v))) | none => none) else none
  | _, _, _ => none
def adelete (P : Program) (h : Heap) (t : TypeId) (m key : Value) : Option (Value × Heap) :=
  match mapOf P t, m, key with
  | some (k, _), .map (some r), .int k' x => if k' = k then (match mapAt h k r with | some es => some (undef, h.oput r (.map k (delE es x))) | none => none) else none
  | _, _, _ => none
section
variable {P : Program} {w0 w : World} {ρ : Ren} {h : Heap}
theorem findNow_rel {k : IntKind} {x : Int} : ∀ {es : List (Int × Value)} {ms : List MapEntry} {i : Nat}, ms.length = es.length → (∀ (j : Nat) a e, es[j]? = some a → ms[j]? = some e → e.key = .int k a.1) →
    Instr.findNow (.int k) (.int k x) ms i = some ((findE x es).bind fun j => ms[j]?.map fun e => (i + j, e.val))
  | [], [], i, _, _ => rfl
  | a :: es, [], i, h, _ => by simp at h
  | [], e :: ms, i, h, _ => by simp at h
  | a :: es, e :: ms, i, hl, H => by
    have h0 := H 0 a e rfl rfl
    have ih := findNow_rel (k := k) (x := x) (es := es) (ms := ms) (i := i + 1) (by simpa using hl) (fun j b f hb hf => H (j + 1) b f (by simpa using hb) (by simpa using hf))
    simp only [Instr.findNow, h0, Instr.sameNow, if_true]
    by_cases e1 : a.1 = x
    · subst e1; simp [findE]
    · have : (x == a.1) = false := by simpa using fun h => e1 h.symm
      simp only [this, ih, findE, if_neg e1]
      cases findE x es with
      | none => rfl
      | some j => simp only [Option.map_some, Option.bind_some, List.getElem?_cons_succ]; rw [show i + 1 + j = i + (j + 1) by omega]
theorem findE_lt {x : Int} : ∀ {es : List (Int × Value)} {i : Nat}, findE x es = some i → ∃ v, es[i]? = some (x, v)
  | [], i, h => by simp [findE] at h
  | e :: es, i, h => by
    unfold findE at h
    split at h
    · rename_i e1; cases h; exact ⟨e.2, by simp [← e1]⟩
    · cases hf : findE x es with
      | none => rw [hf] at h; cases h
      | some j =>
        rw [hf] at h; cases h
        obtain ⟨v, hv⟩ := findE_lt hf
        exact ⟨v, by simpa using hv⟩
theorem map_kind {t : TypeId} {k : IntKind} {e : TypeId} (h : mapOf P t = some (k, e)) : ∃ key, P.underlying t = some (.map key e) ∧ P.underlying key = some (.int k) := by
  unfold mapOf at h
  split at h
  · rename_i key e' ht
    split at h
    · rename_i k' hk; cases h; exact ⟨key, ht, hk⟩
    · cases h
  · cases h
theorem mapAt_some {k : IntKind} {r : Nat} {es : List (Int × Value)} (h1 : mapAt h k r = some es) : h.obj r = some (.map k es) := by
  unfold mapAt at h1
  split at h1
  · rename_i k' es' ho
    split at h1
    · rename_i e; subst e; cases h1; exact ho
    · cases h1
  · cases h1
/-- Where a map that is told lies. -/
theorem map_lies (H : HRel P w0 ρ h w) {k : IntKind} {r r' : Nat} {es : List (Int × Value)} (ho : h.obj r = some (.map k es)) (hr : MR ρ r r') :
    ∃ L ms clock, ρ r = some L ∧ L.blk = r' ∧ w.heap[r']? = some (.map ms clock) ∧ ms.size = es.length ∧ ∀ (i : Nat) x e, es[i]? = some x → ms[i]? = some e → e.key = .int k x.1 ∧ VR ρ x.2 e.val := by
  obtain ⟨hlt, L, o, g1, g2, g3, g4, g5⟩ := H.mo.objs r _ ho
  obtain ⟨L', q1, q2⟩ := hr
  rw [g1] at q1; cases q1
  subst q2
  cases o <;> simp only [ObjR] at g5
  exact ⟨L, _, _, g1, rfl, g4, g5.1, g5.2⟩
theorem run_checkKey' {key : TypeId} {k : IntKind} {x : Int} {b : Bool} (hk : P.underlying key = some (.int k)) (n : Nat) : (Instr.checkKey b (n + 1) key (.int k x)).run P w = .ok () w := by
  simp [Instr.checkKey, run_underlying hk]
theorem run_checkKey {key : TypeId} {k : IntKind} {x : Int} {b : Bool} (hk : P.underlying key = some (.int k)) : (Instr.checkKey b 10000 key (.int k x)).run P w = .ok () w := run_checkKey' hk 9999
theorem run_findKey {key : TypeId} {k : IntKind} {x : Int} {es : List (Int × Value)} {ms : Array MapEntry} (hk : P.underlying key = some (.int k)) (hl : ms.size = es.length) (H : ∀ (j : Nat) a e, es[j]? = some a → ms[j]? = some e → e.key = .int k a.1) :
    (Instr.findKey key (.int k x) ms.toList).run P w = .ok ((findE x es).bind fun j => ms[j]?.map fun e => (j, e.val)) w := by
  have := findNow_rel (k := k) (x := x) (es := es) (ms := ms.toList) (i := 0) (by simpa using hl) (fun j a e ha he => H j a e ha (by simpa using he))
  simp only [Array.getElem?_toList, Nat.zero_add] at this
  simp [Instr.findKey, run_underlying hk, this]
theorem vr_of_cells {v : Value} (A : AR ρ v.cells v.cells) : VR ρ v v := by
  cases v with
  | agg cs => exact VR.agg (by simpa [Value.cells] using A)
  | _ => exact A.2 0 _ _ rfl rfl
theorem lookup_rel (H : HRel P w0 ρ h w) {t : TypeId} {m m' key key' : Value} {ok : Bool} (hm : VR ρ m m') (hk : VR ρ key key') {v : Value} {h' : Heap} (hs : alookup P h t m key ok = some (v, h')) :
    h' = h ∧ ∃ v', (Instr.lookup t m' key' ok).run P w = .ok v' w ∧ VR ρ v v' := by
  unfold alookup at hs
  split at hs
  · rename_i k e r k' x hmo
    split at hs
    · rename_i ek; subst ek
      obtain ⟨kt, ht, hkt⟩ := map_kind hmo
      split at hs
      · rename_i es z hes hz
        obtain ⟨z1, z2, _⟩ := azero_rel (w := w) (ρ := ρ) hz
        have z2 := vr_of_cells z2
        rcases hm.map_inv with ⟨e1, _⟩ | ⟨y, y', e1, rfl, hr⟩
        · cases e1
        cases e1
        rw [hk.int_inv]
        obtain ⟨L, ms, clock, g1, g2, g3, g4, g5⟩ := map_lies H (mapAt_some hes) hr
        have hf := run_findKey (w := w) (x := x) hkt g4 fun j a e ha he => (g5 j a e ha he).1
        have hg : (getObj y').run P w = .ok (.map ms clock) w := MapKept.run_getObj_map g3
        unfold getE at hs
        cases hfe : findE x es with
        | none =>
          rw [hfe] at hs hf
          simp only [Option.bind_none] at hs hf
          cases hs
          refine ⟨rfl, if ok = true then .tuple #[z, .bool false] else z, ?_, ?_⟩
          · simp [Instr.lookup, run_underlying ht, hg, run_checkKey hkt, hf, z1]
          · cases ok
            · exact z2
            · exact VR.tuple (AR.push (AR.push AR.nil z2) (VR.bool _))
        | some i =>
          obtain ⟨u, hu⟩ := findE_lt hfe
          have hi : i < ms.size := by have := (List.getElem?_eq_some_iff.1 hu).1; omega
          have hme : ms[i]? = some ms[i] := Array.getElem?_eq_getElem hi
          obtain ⟨q1, q2⟩ := g5 i _ _ hu hme
          rw [hfe] at hs hf
          simp only [Option.bind_some, hu, Option.map_some, hme] at hs hf
          cases hs
          refine ⟨rfl, if ok = true then .tuple #[ms[i].val, .bool true] else ms[i].val, ?_, ?_⟩
          · simp [Instr.lookup, run_underlying ht, hg, run_checkKey hkt, hf]
          · cases ok
            · exact q2
            · exact VR.tuple (AR.push (AR.push AR.nil q2) (VR.bool _))
      · cases hs
    · cases hs
  · cases hs
theorem run_setObj {r : Nat} {o : Obj} {ms : Array MapEntry} {clock : Nat} (h : w.heap[r]? = some (.map ms clock)) : (setObj r o).run P w = .ok () (w.putObj r o) := by simp [setObj, Sem.run, h, World.putObj]
theorem mapUpdate_rel (H : HRel P w0 ρ h w) {t : TypeId} {m m' key key' v v' : Value} (hm : VR ρ m m') (hk : VR ρ key key') (hv : VR ρ v v') {u : Value} {h' : Heap} (hs : amapUpdate P h t m key v = some (u, h')) :
    u = undef ∧ ∃ w', (Instr.mapUpdate t m' key' v').run P w = .ok () w' ∧ HRel P w0 ρ h' w' := by
  unfold amapUpdate at hs
  split at hs
  · rename_i k e r k' x hmo
    split at hs
    · rename_i ek; subst ek
      obtain ⟨kt, ht, hkt⟩ := map_kind hmo
      split at hs
      · rename_i es hes
        cases hs
        refine ⟨rfl, ?_⟩
        rcases hm.map_inv with ⟨e1, _⟩ | ⟨y, y', e1, rfl, hr⟩
        · cases e1
        cases e1
        rw [hk.int_inv]
        obtain ⟨L, ms, clock, g1, g2, g3, g4, g5⟩ := map_lies H (mapAt_some hes) hr
        have hf := run_findKey (w := w) (x := x) hkt g4 fun j a e ha he => (g5 j a e ha he).1
        have hg : (getObj y').run P w = .ok (.map ms clock) w := MapKept.run_getObj_map g3
        subst g2
        unfold putE
        cases hfe : findE x es with
        | none =>
          rw [hfe] at hf
          simp only [Option.bind_none] at hf
          refine ⟨_, by simp [Instr.mapUpdate, run_underlying ht, hg, run_checkKey hkt, hf, run_setObj g3]; rfl, H.oput (mapAt_some hes) g1 ?_⟩
          refine ⟨by simp [g4], fun i a e ha he => ?_⟩
          by_cases hi : i < es.length
          · rw [List.getElem?_append_left hi] at ha
            rw [Array.getElem?_push, if_neg (by omega)] at he
            exact g5 i a e ha he
          · rw [List.getElem?_append_right (by omega)] at ha
            have hil : i - es.length = 0 := by
              have := (List.getElem?_eq_some_iff.1 ha).1; simp at this; omega
            rw [hil] at ha
            simp only [List.getElem?_cons_zero, Option.some.injEq] at ha
            subst ha
            rw [Array.getElem?_push, if_pos (by omega)] at he
            cases he
            exact ⟨rfl, hv⟩
        | some i =>
          obtain ⟨u, hu⟩ := findE_lt hfe
          have hi : i < ms.size := by have := (List.getElem?_eq_some_iff.1 hu).1; omega
          have hme : ms[i]? = some ms[i] := Array.getElem?_eq_getElem hi
          obtain ⟨q1, q2⟩ := g5 i _ _ hu hme
          rw [hfe] at hf
          simp only [Option.bind_some, hme, Option.map_some] at hf
          have hstay : (Instr.keyThatStays (.int k' x) (.int k' x)).run P w = .ok (.int k' x) w := by simp [Instr.keyThatStays, Instr.sameBits]
          refine ⟨w.putObj L.blk (.map (ms.modify i fun e => { e with key := .int k' x, val := v' }) clock), ?_, H.oput (mapAt_some hes) g1 ?_⟩
          · simp [Instr.mapUpdate, run_underlying ht, hg, run_checkKey hkt, hf, run_setObj g3, hme, q1, hstay]
          · refine ⟨by simp [g4], fun j a e ha he => ?_⟩
            rw [Array.getElem?_modify] at he
            rw [List.getElem?_set] at ha
            by_cases hij : i = j
            · subst hij
              rw [if_pos rfl, if_pos (by omega)] at ha
              rw [if_pos rfl, hme] at he
              cases ha; cases he
              exact ⟨rfl, hv⟩
            · rw [if_neg hij] at ha he
              exact g5 j a e ha he
      · cases hs
    · cases hs
  · cases hs
theorem makeMap_rel (H : HRel P w0 ρ h w) {t : TypeId} {v : Value} {h' : Heap} (hs : amakeMap P h t = some (v, h')) :
    ∃ v' w' ρ', (Instr.makeMap t none).run P w = .ok v' w' ∧ RenLe ρ ρ' ∧ HRel P w0 ρ' h' w' ∧ VR ρ' v v' := by
  unfold amakeMap at hs
  split at hs
  · rename_i k e hmo
    cases hs
    refine ⟨.map (some w.heap.size), w.alloc (.map #[] 0), _, by simp only [Instr.makeMap, Sem.run_bind, run_newObj_alloc, Result.andThen, Sem.run_pure], H.le_add _, H.opush (o := .map #[] 0) ⟨rfl, fun i x e hx => by simp at hx⟩, VR.map ⟨_, Ren.add_self, rfl⟩⟩
  · cases hs
theorem delete_rel (H : HRel P w0 ρ h w) {t : TypeId} {m m' key key' : Value} {ts : Array TypeId} {ty : TypeId} (ht0 : ts[0]? = some t) (hm : VR ρ m m') (hk : VR ρ key key') {u : Value} {h' : Heap} (hs : adelete P h t m key = some (u, h')) :
    u = undef ∧ ∃ w', (Builtin.delete_ ts ty #[m', key']).run P w = .ok (.tuple #[]) w' ∧ HRel P w0 ρ h' w' := by
  unfold adelete at hs
  split at hs
  · rename_i k e r k' x hmo
    split at hs
    · rename_i ek; subst ek
      obtain ⟨kt, ht, hkt⟩ := map_kind hmo
      split at hs
      · rename_i es hes
        cases hs
        refine ⟨rfl, ?_⟩
        rcases hm.map_inv with ⟨e1, _⟩ | ⟨y, y', e1, rfl, hr⟩
        · cases e1
        cases e1
        rw [hk.int_inv]
        obtain ⟨L, ms, clock, g1, g2, g3, g4, g5⟩ := map_lies H (mapAt_some hes) hr
        have hf := run_findKey (w := w) (x := x) hkt g4 fun j a e ha he => (g5 j a e ha he).1
        have hg : (getObj y').run P w = .ok (.map ms clock) w := MapKept.run_getObj_map g3
        subst g2
        unfold delE
        cases hfe : findE x es with
        | none =>
          rw [hfe] at hf
          simp only [Option.bind_none] at hf
          exact ⟨_, by simp [Builtin.delete_, ht0, run_underlying ht, hg, run_checkKey hkt, hf, run_setObj g3]; rfl, H.oput (mapAt_some hes) g1 (by exact ⟨g4, g5⟩)⟩
        | some i =>
          obtain ⟨u, hu⟩ := findE_lt hfe
          have hi : i < ms.size := by have := (List.getElem?_eq_some_iff.1 hu).1; omega
          have hme : ms[i]? = some ms[i] := Array.getElem?_eq_getElem hi
          rw [hfe] at hf
          simp only [Option.bind_some, hme, Option.map_some] at hf
          refine ⟨w.putObj L.blk (.map (ms.eraseIdxIfInBounds i) clock), ?_, H.oput (mapAt_some hes) g1 ?_⟩
          · simp [Builtin.delete_, ht0, run_underlying ht, hg, run_checkKey hkt, hf, run_setObj g3]
          · have he : (ms.eraseIdxIfInBounds i).toList = ms.toList.eraseIdx i := by simp
            refine ⟨by rw [← Array.length_toList, he, List.length_eraseIdx, List.length_eraseIdx, Array.length_toList, g4], fun j a e ha he' => ?_⟩
            rw [← Array.getElem?_toList, he, List.getElem?_eraseIdx] at he'
            rw [List.getElem?_eraseIdx] at ha
            split at ha <;> rename_i hj
            · rw [if_pos hj] at he'; exact g5 j a e ha (by simpa using he')
            · rw [if_neg hj] at he'; exact g5 (j + 1) a e ha (by simpa using he')
      · cases hs
    · cases hs
  · cases hs
end
end Go.Proofs.YthmpaddhmgnkbaaDoor.Am
end
section
/- The frame Am, a text ahead of the ninth: clear, copy, and strings turned to rows, told of abstract heaps. Nothing of a program stands here. -/
set_option linter.unusedVariables false
set_option linter.unusedSimpArgs false
namespace Go.Proofs.YthmpaddhmgnkbaaDoor.Am
open Go Go.RowKit
/-- Cells written over a row's, from its begin on. -/
def aover (h : Heap) (a : Addr) (cs : List Value) : Option Heap :=
  match h.get a.block with
  | none => none
  | some k => if k.live = true ∧ k.ro = false ∧ a.off + cs.length ≤ k.cells.length ∧ cs.all one = true then some (h.store a.block k a.off cs) else none
def aclear (P : Program) (h : Heap) (t : TypeId) (x : Value) : Option (Value × Heap) :=
  match P.underlying t, x with
  | some (.slice e), .slice none _ _ => some (undef, h)
  | some (.slice e), .slice (some a) n _ => if n = 0 then some (undef, h) else (match azero P e with
    | some z => (match aover h a (Builtin.zeroCells z.cells n).toList with | some h' => some (undef, h') | none => none)
    | none => none)
  | _, _ => none
/-- The first cells of a row. -/
def afirst (h : Heap) (s n : Nat) (x : Value) : Option (List Value) :=
  match x with
  | .slice none _ _ => some []
  | .slice (some a) _ _ => if n = 0 then some [] else (match h.get a.block with
    | some k => if k.live = true ∧ a.off + n * s ≤ k.cells.length then some ((k.cells.drop a.off).take (n * s)) else none
    | none => none)
  | _ => none
def lenOfV : Value → Option Nat
  | .slice _ n _ => some n
  | _ => none
def acopy (P : Program) (h : Heap) (t : TypeId) (d x : Value) : Option (Value × Heap) :=
  match P.underlying t, d, lenOfV x with
  | some (.slice e), .slice base dn _, some m =>
    (match asz P e with
    | none => none
    | some s => (match afirst h s (Nat.min m dn) x with
      | none => none
      | some cs => (match base with
        | none => some (.int .i64 (Nat.min m dn), h)
        | some a => if Nat.min m dn = 0 then some (.int .i64 0, h) else (match aover h a cs with | some h' => some (.int .i64 (Nat.min m dn), h') | none => none))))
  | _, _, _ => none
def bytesV (s : ByteArray) : List Value := s.data.toList.map fun b => Value.int .u8 b.toNat
def runesV (s : ByteArray) : List Value := (Conv.runesFrom s s.size 0 #[]).toList
def aconvE (P : Program) (h : Heap) (s t : TypeId) (x : Value) : Option (Value × Heap) :=
  match P.underlying s, P.underlying t, x with
  | some .string, some (.slice e), .string b =>
    (match P.underlying e, asz P e with
    | some (.int .u8), some 1 => some (.slice (some ⟨h.size, 0, none⟩) b.size 0, h.new e (bytesV b))
    | some (.int .i32), some 1 => if (runesV b).length ≤ 70368744177664 ∧ (runesV b).all constOk = true ∧ (runesV b).all one = true then some (.slice (some ⟨h.size, 0, none⟩) (runesV b).length 0, h.new e (runesV b)) else none
    | _, _ => none)
  | some (.slice _), some (.slice e), .slice (some a) n c => if s = t ∧ isU8 (P.underlying e) = true ∧ 0 < n then (match h.get a.block with | some k => if k.ro = false ∧ k.live = true ∧ a.off + n ≤ k.cells.length ∧ asz P k.elem = some 1 then some (.slice (some a) n c, h) else none | none => none) else none
  | _, _, _ => none
section
variable {P : Program} {w0 w : World} {ρ : Ren} {h : Heap}
theorem over_rel (H : HRel P w0 ρ h w) {a : Addr} {L : Loc} (hL : ρ a.block = some L) {cs : List Value} {cs' : List Value} (hc : AR ρ cs.toArray cs'.toArray) {h' : Heap} (hs : aover h a cs = some h') :
    ∃ w', (storeCells ⟨L.blk, L.off + a.off, none⟩ cs').run P w = .ok () w' ∧ HRel P w0 ρ h' w' := by
  unfold aover at hs
  split at hs
  · cases hs
  rename_i k hk
  split at hs
  · rename_i hl
    obtain ⟨l1, l2, l4, l5⟩ := hl
    cases hs
    have B := H.br hk hL
    obtain ⟨_, htop, arr, tt, fr, ha, hsz, hfr⟩ := B.own l2
    have hlen : cs'.length = cs.length := by have := hc.1; simpa using this.symm
    have hone : ∀ v, v ∈ cs' → one v = true := fun v hv => by
      obtain ⟨j, hj⟩ := List.mem_iff_getElem?.1 hv
      have hjl := (List.getElem?_eq_some_iff.1 hj).1
      have := hc.2 j (cs[j]'(by omega)) v (by simp) (by simpa using hj)
      rw [this.one_eq]
      exact (List.all_eq_true.1 l5) _ (List.getElem_mem _)
    obtain ⟨w1, s1, s2, s3, s4, s5, s6, arr', s7, s8, s9⟩ := run_cells (P := P) L.blk (L.off + a.off) tt fr cs' 0 arr w hone ha (by omega) (fun j hj => hfr.2.1 j (by omega))
    refine ⟨w1, s1, H.stored hk hL l1 l2 (i := a.off) (vs := cs) (vs' := cs') l4 hlen (fun j x y hx hy => ⟨(List.all_eq_true.1 l5) x (List.mem_of_getElem? hx), hc.2 j x y (by simpa using hx) (by simpa using hy)⟩) s2 s3 s4 s5 s6
      (fun arr2 t2 fr2 h2 => by rw [ha] at h2; cases h2; exact ⟨arr', s7, s8, fun j => by rw [s9 j]; simp only [Nat.add_zero]⟩)⟩
  · cases hs
theorem AR.zeros {z : Value} (hz : AR ρ z.cells z.cells) (n : Nat) : AR ρ (Builtin.zeroCells z.cells n) (Builtin.zeroCells z.cells n) := by
  refine ⟨rfl, fun i x y hx hy => ?_⟩
  rw [hx] at hy; cases hy
  simp only [Builtin.zeroCells, Array.getElem?_map, Option.map_eq_some_iff] at hx
  obtain ⟨q, hq, rfl⟩ := hx
  have hj : i < n * z.cells.size := by have := (Array.getElem?_eq_some_iff.1 hq).1; simpa using this
  have hpos : 0 < z.cells.size := by
    rcases Nat.eq_zero_or_pos z.cells.size with h | h
    · rw [h] at hj; simp at hj
    · exact h
  have hm := Nat.mod_lt q hpos
  have e : z.cells[q % z.cells.size]! = z.cells[q % z.cells.size] := getElem!_pos z.cells _ hm
  rw [e]
  exact hz.2 (q % z.cells.size) _ _ (Array.getElem?_eq_getElem hm) (Array.getElem?_eq_getElem hm)
theorem clear_rel (H : HRel P w0 ρ h w) {t : TypeId} {x x' : Value} {ts : Array TypeId} {ty : TypeId} (ht0 : ts[0]? = some t) (hx : VR ρ x x') {u : Value} {h' : Heap} (hs : aclear P h t x = some (u, h')) :
    u = undef ∧ ∃ w', (Builtin.clear_ ts ty #[x']).run P w = .ok (.tuple #[]) w' ∧ HRel P w0 ρ h' w' := by
  unfold aclear at hs
  split at hs
  · rename_i e n c ht
    cases hs
    obtain ⟨a', c', rfl, _, _, _, hS⟩ := hx.slice_inv
    cases a' with
    | some _ => exact hS.elim
    | none => exact ⟨rfl, w, by simp [Builtin.clear_, ht0, run_underlying ht], H⟩
  · rename_i e a n c ht
    obtain ⟨a', c', rfl, hn, hnc, _, hS⟩ := hx.slice_inv
    split at hs
    · rename_i h0
      subst h0
      cases hs
      refine ⟨rfl, w, ?_, H⟩
      cases a' <;> simp [Builtin.clear_, ht0, run_underlying ht]
    · rename_i h0
      split at hs
      · rename_i z hz
        split at hs
        · rename_i h2 ho
          cases hs
          cases a' with
          | none => exact hS.elim
          | some y =>
            rcases hS with ⟨hsp, L, hL, rfl, _⟩ | hc0
            · obtain ⟨z1, z2, _⟩ := azero_rel (w := w) (ρ := ρ) hz
              obtain ⟨w', s1, s2⟩ := over_rel H hL (cs' := (Builtin.zeroCells z.cells n).toList) (by simpa using AR.zeros z2 n) ho
              refine ⟨rfl, w', ?_, s2⟩
              obtain ⟨m, rfl⟩ : ∃ m, n = m + 1 := ⟨n - 1, by omega⟩
              simp [Builtin.clear_, ht0, run_underlying ht, z1, s1]
            · omega
        · cases hs
      · cases hs
  · cases hs
theorem first_rel (H : HRel P w0 ρ h w) {s n : Nat} {x x' : Value} (hx : VR ρ x x') {cs : List Value} (hn : ∀ m, lenOfV x = some m → n ≤ m) (hs : afirst h s n x = some cs) (hl : ∃ m, lenOfV x = some m) :
    ∃ cs' : List Value, (Builtin.firstCells s n x').run P w = .ok cs'.toArray w ∧ AR ρ cs.toArray cs'.toArray := by
  unfold afirst at hs
  split at hs
  · rename_i m c
    cases hs
    obtain ⟨a', c', rfl, _, _, _, hS⟩ := hx.slice_inv
    cases a' with
    | some _ => exact hS.elim
    | none => exact ⟨[], by simp [Builtin.firstCells], AR.nil⟩
  · rename_i a m c
    obtain ⟨a', c', rfl, _, hmc, _, hS⟩ := hx.slice_inv
    have hnm := hn m rfl
    cases a' with
    | none => exact hS.elim
    | some y =>
      split at hs
      · rename_i h0; subst h0; cases hs
        exact ⟨[], by simp [Builtin.firstCells, loadCells, loadCellsFrom], AR.nil⟩
      · split at hs
        · rename_i k hk
          split at hs
          · rename_i hlv
            cases hs
            rcases hS with ⟨hsp, L, hL, rfl, _⟩ | hc0
            · obtain ⟨cs', c1, c2, c3, c4⟩ := cells_rel H hk hL hlv.1 hlv.2
              exact ⟨cs', by simpa [Builtin.firstCells] using c2 w rfl, c4⟩
            · omega
          · cases hs
        · cases hs
  · cases hs
theorem copy_rel (H : HRel P w0 ρ h w) {t : TypeId} {d d' x x' : Value} {ts : Array TypeId} {ty : TypeId} (ht0 : ts[0]? = some t) (hd : VR ρ d d') (hx : VR ρ x x') {u : Value} {h' : Heap} (hs : acopy P h t d x = some (u, h')) :
    ∃ w', (Builtin.copy_ ts ty #[d', x']).run P w = .ok u w' ∧ HRel P w0 ρ h' w' ∧ VR ρ u u := by
  unfold acopy at hs
  split at hs
  · rename_i e base dn c m ht hm
    split at hs
    · cases hs
    rename_i s hsz
    split at hs
    · cases hs
    rename_i cs hcs
    obtain ⟨cs', f1, f2⟩ := first_rel H hx (fun m' hm' => by rw [hm] at hm'; cases hm'; exact Nat.min_le_left _ _) hcs ⟨m, hm⟩
    have hlen : (Builtin.lenOf x').run P w = .ok m w := by
      cases x <;> simp only [lenOfV] at hm
      · cases hm
      · cases hm
      · cases hm
      · cases hm
      · cases hm
      · cases hm
      · cases hm; obtain ⟨a', c', rfl, _⟩ := hx.slice_inv; simp [Builtin.lenOf]
      all_goals cases hm
    have hsize : (sizeOf e).run P w = .ok s w := run_sizeOf hsz w
    obtain ⟨a', c', rfl, hn, hnc, _, hS⟩ := hd.slice_inv
    split at hs
    · rename_i hb
      cases hs
      cases a' with
      | some _ => exact hS.elim
      | none => exact ⟨w, by simp [Builtin.copy_, ht0, run_underlying ht, hlen, hsize, f1, goInt], H, VR.int _ _⟩
    · rename_i a
      cases a' with
      | none => exact hS.elim
      | some y =>
        split at hs
        · rename_i h0
          cases hs
          have hcs0 : cs' = [] := by
            have h1 := f2.1
            unfold afirst at hcs
            have : cs = [] := by
              split at hcs
              · cases hcs; rfl
              · rw [if_pos h0] at hcs; cases hcs; rfl
              · cases hcs
            subst this
            simp at h1; exact List.length_eq_zero_iff.1 h1.symm
          subst hcs0
          have f1' := f1
          rw [show Nat.min m dn = 0 from h0] at f1'
          exact ⟨w, by simp [Builtin.copy_, ht0, run_underlying ht, hlen, hsize, f1', goInt, h0, storeCells], H, VR.int _ _⟩
        · rename_i h0
          split at hs
          · rename_i h2 ho
            cases hs
            rcases hS with ⟨hsp, L, hL, rfl, _⟩ | hc0
            · obtain ⟨w', s1, s2⟩ := over_rel H hL f2 ho
              exact ⟨w', by simp [Builtin.copy_, ht0, run_underlying ht, hlen, hsize, f1, goInt, s1], s2, VR.int _ _⟩
            · have : Nat.min m dn ≤ dn := Nat.min_le_right _ _
              omega
          · cases hs
  · cases hs
theorem convE_rel (H : HRel P w0 ρ h w) {s t : TypeId} {x x' : Value} (hx : VR ρ x x') {v : Value} {h' : Heap} (hs : aconvE P h s t x = some (v, h')) :
    ∃ v' w' ρ', (convert s t x').run P w = .ok v' w' ∧ RenLe ρ ρ' ∧ HRel P w0 ρ' h' w' ∧ VR ρ' v v' := by
  unfold aconvE at hs
  split at hs
  · rename_i e b hs1 ht1
    rw [hx.string_inv]
    split at hs
    · rename_i he hz
      cases hs
      obtain ⟨i, hi, hi1⟩ := Option.map_eq_some_iff.1 hz
      have hr := run_bytes_of_string (P := P) w s t e b hs1 ht1 he
      generalize hcap : grownCap w b.size 0 e = cap at hr
      have hge : b.size ≤ cap := by rw [← hcap]; have := grownCap_ge w b.size 0 e; omega
      have hds : b.data.size = b.size := rfl
      have hsz : (bytesRow b cap).size = cap := by unfold bytesRow; rw [Array.size_append, Array.size_map, Array.size_replicate]; omega
      have hlen : (bytesV b).length = b.size := by unfold bytesV; rw [List.length_map, Array.length_toList]; rfl
      rw [hsz] at hr
      have G := (H.drawn (w.drawn + 1)).pushed (f := h.size) (cells := bytesV b) (w1 := w.drew.alloc (.cells (bytesRow b cap) e (cap, cap + 1))) (Nat.le_refl _) hi (below_alloc' w.drew _) (heap_alloc_new w.drew _) ⟨Nat.le_succ _, fun o ho => by rw [hsz] at ho; simp only; omega, ⟨i, hi, rfl⟩, fun hn => absurd hi1 hn⟩ (by rw [hlen, hsz]; exact hge) (fun j u hj => ?_)
      · refine ⟨_, _, _, hr, H.le_add _, G, VR.slice ⟨rfl, hge, .inl rfl, .inl ⟨rfl, _, Ren.add_self, rfl, ?_⟩⟩⟩
        rw [hi1, hsz]; simp
      · have hjl : j < b.data.size := by have := (List.getElem?_eq_some_iff.1 hj).1; rw [hlen] at this; exact this
        have hu : u = Value.int .u8 (b.data[j]'hjl).toNat := by
          simp only [bytesV, List.getElem?_map, Array.getElem?_toList] at hj
          rw [Array.getElem?_eq_getElem hjl] at hj
          simpa using hj.symm
        subst hu
        refine ⟨rfl, _, ?_, VR.int _ _⟩
        simp only [bytesRow]
        rw [Array.getElem?_append_left (by simpa using hjl), Array.getElem?_map, Array.getElem?_eq_getElem hjl]; rfl
    · rename_i he hz
      split at hs
      · rename_i hl
        obtain ⟨h46, hco, hone⟩ := hl
        cases hs
        have hr := run_runes_of_string (P := P) w s t e b hs1 ht1 he (by simpa [runesV] using h46)
        generalize hcap : grownCap w (Conv.runesFrom b b.size 0 #[]).size 0 e = cap at hr
        have hge : (Conv.runesFrom b b.size 0 #[]).size ≤ cap := by rw [← hcap]; have := grownCap_ge w (Conv.runesFrom b b.size 0 #[]).size 0 e; omega
        have hlen : (runesV b).length = (Conv.runesFrom b b.size 0 #[]).size := by simp [runesV]
        have hAR : AR ρ (runesV b).toArray (Conv.runesFrom b b.size 0 #[]) := by
          refine ⟨by simp [runesV], fun i x y h1 h2 => ?_⟩
          have e1 : (runesV b).toArray = Conv.runesFrom b b.size 0 #[] := by simp [runesV]
          rw [e1] at h1
          rw [h1] at h2; cases h2
          have hm : x ∈ runesV b := by simp only [runesV, Array.mem_toList_iff]; exact Array.mem_of_getElem? h1
          exact constOk_VR ((List.all_eq_true.1 hco) x hm)
        obtain ⟨ρ', r1, r2, r3⟩ := new_rel (H.drawn (w.drawn + 1)) (e := e) hz (fun v hv => (List.all_eq_true.1 hone) v hv) hAR (Array.replicate (cap - (Conv.runesFrom b b.size 0 #[]).size) (Value.int .i32 0))
        refine ⟨_, _, ρ', hr, r1, r2, VR.slice ⟨hlen, hge, .inl rfl, .inl ⟨rfl, _, r3, rfl, ?_⟩⟩⟩
        simp only [Array.size_replicate]; omega
      · cases hs
    · cases hs
  · rename_i d e a n c hs1 ht1
    split at hs
    · rename_i he
      obtain ⟨rfl, he, hn⟩ := he
      rw [hs1] at ht1; cases ht1
      split at hs
      · rename_i k hk
        split at hs
        · rename_i hro
          cases hs
          obtain ⟨a', c', rfl, hS⟩ := hx.slice_inv
          obtain ⟨_, hnc, _, hS2⟩ := hS
          cases a' with
          | none => exact hS2.elim
          | some x' =>
            rcases hS2 with ⟨hsp, L, hL, rfl, _⟩ | h0
            · obtain ⟨_, _, arr, tt, fr, ha, hsz, _⟩ := (H.br hk hL).own hro.1
              have hsh : w.shape? L.blk = some (tt, L.top) := by simp [World.shape?, ha, hsz]
              exact ⟨_, _, ρ, by simp [convert, run_underlying hs1, run_underlying (isU8_eq he), markStringish, hsh], RenLe.refl _, H.frozen hk hL hro.1 (by
                obtain ⟨i', e1, e2⟩ := (H.br hk hL).info
                have e3 := hro.2.2.2
                simp only [asz, e1, Option.map_some, Option.some.injEq] at e3
                omega), hx⟩
            · omega
        · cases hs
      · cases hs
    · cases hs
  · cases hs
end
end Go.Proofs.YthmpaddhmgnkbaaDoor.Am
end
section
/- The frame Am, a text beside the others: maps whose keys are strings, told. Nothing of a program stands here. -/
set_option linter.unusedVariables false
set_option linter.unusedSimpArgs false
namespace Go.Proofs.YthmpaddhmgnkbaaDoor.Am
open Go Go.RowKit
/-- A map whose keys are strings. -/
def smapOf (P : Program) (t : TypeId) : Option TypeId :=
  match P.underlying t with
  | some (.map key e) => (match P.underlying key with | some .string => some e | _ => none)
  | _ => none
/-- Is a key in a map, and where? -/
def findS (x : ByteArray) : List (ByteArray × Value) → Option Nat
  | [] => none
  | e :: es => if e.1 = x then some 0 else (findS x es).map (· + 1)
def getS (es : List (ByteArray × Value)) (x : ByteArray) : Option Value := (findS x es).bind fun i => es[i]?.map (·.2)
def putS (es : List (ByteArray × Value)) (x : ByteArray) (v : Value) : List (ByteArray × Value) := match findS x es with | some i => es.set i (x, v) | none => es ++ [(x, v)]
def delS (es : List (ByteArray × Value)) (x : ByteArray) : List (ByteArray × Value) := match findS x es with | some i => es.eraseIdx i | none => es
def amakeMapS (P : Program) (h : Heap) (t : TypeId) : Option (Value × Heap) :=
  match smapOf P t with
  | some _ => some (.map (some h.size), h.opush (.smap []))
  | none => none
def smapAt (h : Heap) (r : Nat) : Option (List (ByteArray × Value)) := match h.obj r with | some (.smap es) => some es | _ => none
def alookupS (P : Program) (h : Heap) (t : TypeId) (m key : Value) (ok : Bool) : Option (Value × Heap) :=
  match smapOf P t, m, key with
  | some e, .map (some r), .string x =>
    (match smapAt h r, azero P e with
      | some es, some z => (match getS es x with
        | some v => some (if ok = true then .tuple #[v, .bool true] else v, h)
        | none => some (if ok = true then .tuple #[z, .bool false] else z, h))
      | _, _ => none)
  | _, _, _ => none
def amapUpdateS (P : Program) (h : Heap) (t : TypeId) (m key v : Value) : Option (Value × Heap) :=
  match smapOf P t, m, key with
  | some _, .map (some r), .string x => (match smapAt h r with | some es => some (undef, h.oput r (.smap (putS es x v))) | none => none)
  | _, _, _ => none
def adeleteS (P : Program) (h : Heap) (t : TypeId) (m key : Value) : Option (Value × Heap) :=
  match smapOf P t, m, key with
  | some _, .map (some r), .string x => (match smapAt h r with | some es => some (undef, h.oput r (.smap (delS es x))) | none => none)
  | _, _, _ => none
section
variable {P : Program} {w0 w : World} {ρ : Ren} {h : Heap}
theorem ba_beq (x y : ByteArray) : (x == y) = decide (x = y) := by
  by_cases h : x = y
  · rw [decide_eq_true h]; exact (MapKept.bytes_beq x y).2 h
  · rw [decide_eq_false h]
    cases e : x == y with
    | false => rfl
    | true => exact absurd ((MapKept.bytes_beq x y).1 e) h
theorem findNowS_rel {x : ByteArray} : ∀ {es : List (ByteArray × Value)} {ms : List MapEntry} {i : Nat}, ms.length = es.length → (∀ (j : Nat) a e, es[j]? = some a → ms[j]? = some e → e.key = .string a.1) →
    Instr.findNow .string (.string x) ms i = some ((findS x es).bind fun j => ms[j]?.map fun e => (i + j, e.val))
  | [], [], i, _, _ => rfl
  | a :: es, [], i, h, _ => by simp at h
  | [], e :: ms, i, h, _ => by simp at h
  | a :: es, e :: ms, i, hl, H => by
    have h0 := H 0 a e rfl rfl
    have ih := findNowS_rel (x := x) (es := es) (ms := ms) (i := i + 1) (by simpa using hl) (fun j b f hb hf => H (j + 1) b f (by simpa using hb) (by simpa using hf))
    simp only [Instr.findNow, h0, Instr.sameNow, if_true]
    by_cases e1 : a.1 = x
    · subst e1; simp [findS, ba_beq]
    · have : (x == a.1) = false := by rw [ba_beq]; exact decide_eq_false fun h => e1 h.symm
      simp only [this, ih, findS, if_neg e1]
      cases findS x es with
      | none => rfl
      | some j => simp only [Option.map_some, Option.bind_some, List.getElem?_cons_succ]; rw [show i + 1 + j = i + (j + 1) by omega]
theorem findS_lt {x : ByteArray} : ∀ {es : List (ByteArray × Value)} {i : Nat}, findS x es = some i → ∃ v, es[i]? = some (x, v)
  | [], i, h => by simp [findS] at h
  | e :: es, i, h => by
    unfold findS at h
    split at h
    · rename_i e1; cases h; exact ⟨e.2, by simp [← e1]⟩
    · cases hf : findS x es with
      | none => rw [hf] at h; cases h
      | some j =>
        rw [hf] at h; cases h
        obtain ⟨v, hv⟩ := findS_lt hf
        exact ⟨v, by simpa using hv⟩
theorem smap_kind {t : TypeId} {e : TypeId} (h : smapOf P t = some e) : ∃ key, P.underlying t = some (.map key e) ∧ P.underlying key = some .string := by
  unfold smapOf at h
  split at h
  · rename_i key e' ht
    split at h
    · rename_i hk; cases h; exact ⟨key, ht, hk⟩
    · cases h
  · cases h
theorem smapAt_some {r : Nat} {es : List (ByteArray × Value)} (h1 : smapAt h r = some es) : h.obj r = some (.smap es) := by
  unfold smapAt at h1
  split at h1
  · rename_i es' ho
    cases h1; exact ho
  · cases h1
/-- Where a map that is told lies. -/
theorem smap_lies (H : HRel P w0 ρ h w) {r r' : Nat} {es : List (ByteArray × Value)} (ho : h.obj r = some (.smap es)) (hr : MR ρ r r') :
    ∃ L ms clock, ρ r = some L ∧ L.blk = r' ∧ w.heap[r']? = some (.map ms clock) ∧ ms.size = es.length ∧ (∀ (i : Nat) x e, es[i]? = some x → ms[i]? = some e → e.key = .string x.1 ∧ VR ρ x.2 e.val) ∧ Born ms.toList clock := by
  obtain ⟨hlt, L, o, g1, g2, g3, g4, g5⟩ := H.mo.objs r _ ho
  obtain ⟨L', q1, q2⟩ := hr
  rw [g1] at q1; cases q1
  subst q2
  cases o <;> simp only [ObjR] at g5
  exact ⟨L, _, _, g1, rfl, g4, g5.1, g5.2⟩
theorem run_checkKeyS' {key : TypeId} {x : ByteArray} {b : Bool} (hk : P.underlying key = some .string) (n : Nat) : (Instr.checkKey b (n + 1) key (.string x)).run P w = .ok () w := by
  simp [Instr.checkKey, run_underlying hk]
theorem run_checkKeyS {key : TypeId} {x : ByteArray} {b : Bool} (hk : P.underlying key = some .string) : (Instr.checkKey b 10000 key (.string x)).run P w = .ok () w := run_checkKeyS' hk 9999
theorem run_findKeyS {key : TypeId} {x : ByteArray} {es : List (ByteArray × Value)} {ms : Array MapEntry} (hk : P.underlying key = some .string) (hl : ms.size = es.length) (H : ∀ (j : Nat) a e, es[j]? = some a → ms[j]? = some e → e.key = .string a.1) :
    (Instr.findKey key (.string x) ms.toList).run P w = .ok ((findS x es).bind fun j => ms[j]?.map fun e => (j, e.val)) w := by
  have := findNowS_rel (x := x) (es := es) (ms := ms.toList) (i := 0) (by simpa using hl) (fun j a e ha he => H j a e ha (by simpa using he))
  simp only [Array.getElem?_toList, Nat.zero_add] at this
  simp [Instr.findKey, run_underlying hk, this]
theorem lookupS_rel (H : HRel P w0 ρ h w) {t : TypeId} {m m' key key' : Value} {ok : Bool} (hm : VR ρ m m') (hk : VR ρ key key') {v : Value} {h' : Heap} (hs : alookupS P h t m key ok = some (v, h')) :
    h' = h ∧ ∃ v', (Instr.lookup t m' key' ok).run P w = .ok v' w ∧ VR ρ v v' := by
  unfold alookupS at hs
  split at hs
  · rename_i e r x hmo
    · skip
      obtain ⟨kt, ht, hkt⟩ := smap_kind hmo
      split at hs
      · rename_i es z hes hz
        obtain ⟨z1, z2, _⟩ := azero_rel (w := w) (ρ := ρ) hz
        have z2 := vr_of_cells z2
        rcases hm.map_inv with ⟨e1, _⟩ | ⟨y, y', e1, rfl, hr⟩
        · cases e1
        cases e1
        rw [hk.string_inv]
        obtain ⟨L, ms, clock, g1, g2, g3, g4, g5, g6⟩ := smap_lies H (smapAt_some hes) hr
        have hf := run_findKeyS (w := w) (x := x) hkt g4 fun j a e ha he => (g5 j a e ha he).1
        have hg : (getObj y').run P w = .ok (.map ms clock) w := MapKept.run_getObj_map g3
        unfold getS at hs
        cases hfe : findS x es with
        | none =>
          rw [hfe] at hs hf
          simp only [Option.bind_none] at hs hf
          cases hs
          refine ⟨rfl, if ok = true then .tuple #[z, .bool false] else z, ?_, ?_⟩
          · simp [Instr.lookup, run_underlying ht, hg, run_checkKeyS hkt, hf, z1]
          · cases ok
            · exact z2
            · exact VR.tuple (AR.push (AR.push AR.nil z2) (VR.bool _))
        | some i =>
          obtain ⟨u, hu⟩ := findS_lt hfe
          have hi : i < ms.size := by have := (List.getElem?_eq_some_iff.1 hu).1; omega
          have hme : ms[i]? = some ms[i] := Array.getElem?_eq_getElem hi
          obtain ⟨q1, q2⟩ := g5 i _ _ hu hme
          rw [hfe] at hs hf
          simp only [Option.bind_some, hu, Option.map_some, hme] at hs hf
          cases hs
          refine ⟨rfl, if ok = true then .tuple #[ms[i].val, .bool true] else ms[i].val, ?_, ?_⟩
          · simp [Instr.lookup, run_underlying ht, hg, run_checkKeyS hkt, hf]
          · cases ok
            · exact q2
            · exact VR.tuple (AR.push (AR.push AR.nil q2) (VR.bool _))
      · cases hs
  · cases hs
theorem mapUpdateS_rel (H : HRel P w0 ρ h w) {t : TypeId} {m m' key key' v v' : Value} (hm : VR ρ m m') (hk : VR ρ key key') (hv : VR ρ v v') {u : Value} {h' : Heap} (hs : amapUpdateS P h t m key v = some (u, h')) :
    u = undef ∧ ∃ w', (Instr.mapUpdate t m' key' v').run P w = .ok () w' ∧ HRel P w0 ρ h' w' := by
  unfold amapUpdateS at hs
  split at hs
  · rename_i e r x hmo
    · skip
      obtain ⟨kt, ht, hkt⟩ := smap_kind hmo
      split at hs
      · rename_i es hes
        cases hs
        refine ⟨rfl, ?_⟩
        rcases hm.map_inv with ⟨e1, _⟩ | ⟨y, y', e1, rfl, hr⟩
        · cases e1
        cases e1
        rw [hk.string_inv]
        obtain ⟨L, ms, clock, g1, g2, g3, g4, g5, g6⟩ := smap_lies H (smapAt_some hes) hr
        have hf := run_findKeyS (w := w) (x := x) hkt g4 fun j a e ha he => (g5 j a e ha he).1
        have hg : (getObj y').run P w = .ok (.map ms clock) w := MapKept.run_getObj_map g3
        subst g2
        unfold putS
        cases hfe : findS x es with
        | none =>
          rw [hfe] at hf
          simp only [Option.bind_none] at hf
          refine ⟨_, by simp [Instr.mapUpdate, run_underlying ht, hg, run_checkKeyS hkt, hf, run_setObj g3]; rfl, H.oput (smapAt_some hes) g1 ?_⟩
          refine ⟨by simp [g4], fun i a e ha he => ?_, ?_⟩
          rotate_left
          · obtain ⟨b1, b2⟩ := g6
            refine ⟨fun e he => ?_, ?_⟩
            · simp only [Array.toList_push, List.mem_append, List.mem_singleton] at he
              rcases he with he | rfl
              · have := b1 e he; omega
              · exact Nat.lt_succ_self _
            · simp only [Array.toList_push, List.map_append, List.map_cons, List.map_nil]
              rw [List.nodup_append]
              refine ⟨b2, by simp, fun a ha b hb => ?_⟩
              simp only [List.mem_singleton] at hb
              subst hb
              obtain ⟨e, he, rfl⟩ := List.mem_map.1 ha
              have := b1 e he; omega
          by_cases hi : i < es.length
          · rw [List.getElem?_append_left hi] at ha
            rw [Array.getElem?_push, if_neg (by omega)] at he
            exact g5 i a e ha he
          · rw [List.getElem?_append_right (by omega)] at ha
            have hil : i - es.length = 0 := by
              have := (List.getElem?_eq_some_iff.1 ha).1; simp at this; omega
            rw [hil] at ha
            simp only [List.getElem?_cons_zero, Option.some.injEq] at ha
            subst ha
            rw [Array.getElem?_push, if_pos (by omega)] at he
            cases he
            exact ⟨rfl, hv⟩
        | some i =>
          obtain ⟨u, hu⟩ := findS_lt hfe
          have hi : i < ms.size := by have := (List.getElem?_eq_some_iff.1 hu).1; omega
          have hme : ms[i]? = some ms[i] := Array.getElem?_eq_getElem hi
          obtain ⟨q1, q2⟩ := g5 i _ _ hu hme
          rw [hfe] at hf
          simp only [Option.bind_some, hme, Option.map_some] at hf
          have hstay : (Instr.keyThatStays (.string x) (.string x)).run P w = .ok (.string x) w := by simp [Instr.keyThatStays, Instr.sameBits, ba_beq]
          refine ⟨w.putObj L.blk (.map (ms.modify i fun e => { e with key := .string x, val := v' }) clock), ?_, H.oput (smapAt_some hes) g1 ?_⟩
          · simp [Instr.mapUpdate, run_underlying ht, hg, run_checkKeyS hkt, hf, run_setObj g3, hme, q1, hstay]
          · refine ⟨by simp [g4], fun j a e ha he => ?_, ?_⟩
            rotate_left
            · have hb : ((ms.modify i fun e => { e with key := .string x, val := v' }).toList.map (·.born)) = ms.toList.map (·.born) := by
                refine List.ext_getElem? fun j => ?_
                simp only [List.getElem?_map, Array.getElem?_toList, Array.getElem?_modify]
                by_cases hij : i = j
                · subst hij; rw [if_pos rfl, hme]; rfl
                · rw [if_neg hij]
              refine ⟨fun e he => ?_, by rw [hb]; exact g6.2⟩
              have : e.born ∈ ms.toList.map (·.born) := by rw [← hb]; exact List.mem_map.2 ⟨e, he, rfl⟩
              obtain ⟨e', he', h2⟩ := List.mem_map.1 this
              have := g6.1 e' he'; omega
            rw [Array.getElem?_modify] at he
            rw [List.getElem?_set] at ha
            by_cases hij : i = j
            · subst hij
              rw [if_pos rfl, if_pos (by omega)] at ha
              rw [if_pos rfl, hme] at he
              cases ha; cases he
              exact ⟨rfl, hv⟩
            · rw [if_neg hij] at ha he
              exact g5 j a e ha he
      · cases hs
  · cases hs
theorem makeMapS_rel (H : HRel P w0 ρ h w) {t : TypeId} {v : Value} {h' : Heap} (hs : amakeMapS P h t = some (v, h')) :
    ∃ v' w' ρ', (Instr.makeMap t none).run P w = .ok v' w' ∧ RenLe ρ ρ' ∧ HRel P w0 ρ' h' w' ∧ VR ρ' v v' := by
  unfold amakeMapS at hs
  split at hs
  · rename_i e hmo
    cases hs
    refine ⟨.map (some w.heap.size), w.alloc (.map #[] 0), _, by simp only [Instr.makeMap, Sem.run_bind, run_newObj_alloc, Result.andThen, Sem.run_pure], H.le_add _, H.opush (o := .map #[] 0) ⟨rfl, fun i x e hx => (by simp at hx), fun e he => (by simp at he), List.nodup_nil⟩, VR.map ⟨_, Ren.add_self, rfl⟩⟩
  · cases hs
theorem deleteS_rel (H : HRel P w0 ρ h w) {t : TypeId} {m m' key key' : Value} {ts : Array TypeId} {ty : TypeId} (ht0 : ts[0]? = some t) (hm : VR ρ m m') (hk : VR ρ key key') {u : Value} {h' : Heap} (hs : adeleteS P h t m key = some (u, h')) :
    u = undef ∧ ∃ w', (Builtin.delete_ ts ty #[m', key']).run P w = .ok (.tuple #[]) w' ∧ HRel P w0 ρ h' w' := by
  unfold adeleteS at hs
  split at hs
  · rename_i e r x hmo
    · skip
      obtain ⟨kt, ht, hkt⟩ := smap_kind hmo
      split at hs
      · rename_i es hes
        cases hs
        refine ⟨rfl, ?_⟩
        rcases hm.map_inv with ⟨e1, _⟩ | ⟨y, y', e1, rfl, hr⟩
        · cases e1
        cases e1
        rw [hk.string_inv]
        obtain ⟨L, ms, clock, g1, g2, g3, g4, g5, g6⟩ := smap_lies H (smapAt_some hes) hr
        have hf := run_findKeyS (w := w) (x := x) hkt g4 fun j a e ha he => (g5 j a e ha he).1
        have hg : (getObj y').run P w = .ok (.map ms clock) w := MapKept.run_getObj_map g3
        subst g2
        unfold delS
        cases hfe : findS x es with
        | none =>
          rw [hfe] at hf
          simp only [Option.bind_none] at hf
          exact ⟨_, by simp [Builtin.delete_, ht0, run_underlying ht, hg, run_checkKeyS hkt, hf, run_setObj g3]; rfl, H.oput (smapAt_some hes) g1 (by exact ⟨g4, g5, g6⟩)⟩
        | some i =>
          obtain ⟨u, hu⟩ := findS_lt hfe
          have hi : i < ms.size := by have := (List.getElem?_eq_some_iff.1 hu).1; omega
          have hme : ms[i]? = some ms[i] := Array.getElem?_eq_getElem hi
          rw [hfe] at hf
          simp only [Option.bind_some, hme, Option.map_some] at hf
          refine ⟨w.putObj L.blk (.map (ms.eraseIdxIfInBounds i) clock), ?_, H.oput (smapAt_some hes) g1 ?_⟩
          · simp [Builtin.delete_, ht0, run_underlying ht, hg, run_checkKeyS hkt, hf, run_setObj g3]
          · have he : (ms.eraseIdxIfInBounds i).toList = ms.toList.eraseIdx i := by simp
            refine ⟨by rw [← Array.length_toList, he, List.length_eraseIdx, List.length_eraseIdx, Array.length_toList, g4], fun j a e ha he' => ?_, ?_⟩
            rotate_left
            · rw [he]
              have hsub := List.eraseIdx_sublist ms.toList i
              exact ⟨fun e h => g6.1 e (hsub.subset h), g6.2.sublist (hsub.map _)⟩
            rw [← Array.getElem?_toList, he, List.getElem?_eraseIdx] at he'
            rw [List.getElem?_eraseIdx] at ha
            split at ha <;> rename_i hj
            · rw [if_pos hj] at he'; exact g5 j a e ha (by simpa using he')
            · rw [if_neg hj] at he'; exact g5 (j + 1) a e ha (by simpa using he')
      · cases hs
  · cases hs
end
/-- Maps of either kind of keys. -/
def amakeMapM (P : Program) (h : Heap) (t : TypeId) : Option (Value × Heap) := match smapOf P t with | some _ => amakeMapS P h t | none => amakeMap P h t
def alookupM (P : Program) (h : Heap) (t : TypeId) (m key : Value) (ok : Bool) : Option (Value × Heap) := match smapOf P t with | some _ => alookupS P h t m key ok | none => alookup P h t m key ok
def amapUpdateM (P : Program) (h : Heap) (t : TypeId) (m key v : Value) : Option (Value × Heap) := match smapOf P t with | some _ => amapUpdateS P h t m key v | none => amapUpdate P h t m key v
def adeleteM (P : Program) (h : Heap) (t : TypeId) (m key : Value) : Option (Value × Heap) := match smapOf P t with | some _ => adeleteS P h t m key | none => adelete P h t m key
/-- How many a map has. -/
def alenMap (P : Program) (h : Heap) (t : TypeId) (m : Value) : Option (Value × Heap) :=
  match P.underlying t, m with
  | some (.map _ _), .map (some r) => (match h.obj r with
    | some (.map _ es) => some (.int .i64 es.length, h)
    | some (.smap es) => some (.int .i64 es.length, h)
    | _ => none)
  | _, _ => none
section
variable {P : Program} {w0 w : World} {ρ : Ren} {h : Heap}
theorem makeMapM_rel (H : HRel P w0 ρ h w) {t : TypeId} {v : Value} {h' : Heap} (hs : amakeMapM P h t = some (v, h')) :
    ∃ v' w' ρ', (Instr.makeMap t none).run P w = .ok v' w' ∧ RenLe ρ ρ' ∧ HRel P w0 ρ' h' w' ∧ VR ρ' v v' := by
  unfold amakeMapM at hs
  split at hs
  · exact makeMapS_rel H hs
  · exact makeMap_rel H hs
theorem lookupM_rel (H : HRel P w0 ρ h w) {t : TypeId} {m m' key key' : Value} {ok : Bool} (hm : VR ρ m m') (hk : VR ρ key key') {v : Value} {h' : Heap} (hs : alookupM P h t m key ok = some (v, h')) :
    h' = h ∧ ∃ v', (Instr.lookup t m' key' ok).run P w = .ok v' w ∧ VR ρ v v' := by
  unfold alookupM at hs
  split at hs
  · exact lookupS_rel H hm hk hs
  · exact lookup_rel H hm hk hs
theorem mapUpdateM_rel (H : HRel P w0 ρ h w) {t : TypeId} {m m' key key' v v' : Value} (hm : VR ρ m m') (hk : VR ρ key key') (hv : VR ρ v v') {u : Value} {h' : Heap} (hs : amapUpdateM P h t m key v = some (u, h')) :
    u = undef ∧ ∃ w', (Instr.mapUpdate t m' key' v').run P w = .ok () w' ∧ HRel P w0 ρ h' w' := by
  unfold amapUpdateM at hs
  split at hs
  · exact mapUpdateS_rel H hm hk hv hs
  · exact mapUpdate_rel H hm hk hv hs
theorem deleteM_rel (H : HRel P w0 ρ h w) {t : TypeId} {m m' key key' : Value} {ts : Array TypeId} {ty : TypeId} (ht0 : ts[0]? = some t) (hm : VR ρ m m') (hk : VR ρ key key') {u : Value} {h' : Heap} (hs : adeleteM P h t m key = some (u, h')) :
    u = undef ∧ ∃ w', (Builtin.delete_ ts ty #[m', key']).run P w = .ok (.tuple #[]) w' ∧ HRel P w0 ρ h' w' := by
  unfold adeleteM at hs
  split at hs
  · exact deleteS_rel H ht0 hm hk hs
  · exact delete_rel H ht0 hm hk hs
theorem lenMap_rel (H : HRel P w0 ρ h w) {t : TypeId} {m m' : Value} {ts : Array TypeId} {ty : TypeId} (ht0 : ts[0]? = some t) (hm : VR ρ m m') {v : Value} {h' : Heap} (hs : alenMap P h t m = some (v, h')) :
    h' = h ∧ (Builtin.len_ ts ty #[m']).run P w = .ok v w ∧ VR ρ v v := by
  unfold alenMap at hs
  split at hs
  · rename_i key e r ht
    rcases hm.map_inv with ⟨e1, _⟩ | ⟨y, y', e1, rfl, hr⟩
    · cases e1
    cases e1
    split at hs
    · rename_i k es ho
      cases hs
      obtain ⟨L, ms, clock, g1, g2, g3, g4, g5⟩ := map_lies H ho hr
      have hg : (getObj y').run P w = .ok (.map ms clock) w := MapKept.run_getObj_map g3
      exact ⟨rfl, by simp [Builtin.len_, ht0, run_underlying ht, hg, g4, goInt], VR.int _ _⟩
    · rename_i es ho
      cases hs
      obtain ⟨L, ms, clock, g1, g2, g3, g4, g5, g6⟩ := smap_lies H ho hr
      have hg : (getObj y').run P w = .ok (.map ms clock) w := MapKept.run_getObj_map g3
      exact ⟨rfl, by simp [Builtin.len_, ht0, run_underlying ht, hg, g4, goInt], VR.int _ _⟩
    · cases hs
  · cases hs
end
end Go.Proofs.YthmpaddhmgnkbaaDoor.Am
end
section
/- The frame Am, ninth text: all operations that make or write memory as one function (aeff); a world's run of them agrees. Nothing of a program stands here. -/
set_option linter.unusedVariables false
set_option linter.unusedSimpArgs false
namespace Go.Proofs.YthmpaddhmgnkbaaDoor.Am
open Go Go.RowKit

def astore (P : Program) (h : Heap) (t : TypeId) (p v : Value) : Option Heap :=
  match p with
  | .pointer (some a) =>
    (match h.get a.block with
    | none => none
    | some k =>
      if k.live = true ∧ k.ro = false ∧ asz P t = some v.cells.size ∧ a.off + v.cells.size ≤ k.cells.length ∧ v.cells.all one = true then some (h.store a.block k a.off v.cells.toList) else none)
  | _ => none
def firstOf (i : Nat) (zero : Array Value) : Array Value := (Array.range i).map (zero[· % zero.size]!)
def abuildSlice (P : Program) (h : Heap) (t : TypeId) (len : Nat) (parts : Array (Nat × Value)) : Option (Value × Heap) :=
  match P.underlying t with
  | some (.slice e) =>
    (match asz P e with
    | none => none
    | some s =>
      if len * s ≤ 16777216 then
        (match (if len * s = 0 then some #[] else (azero P e).map Value.cells) with
        | none => none
        | some zero =>
          match Instr.fill (fun i => some (i * s, s)) (firstOf (len * s) zero) parts.toList with
          | none => none
          | some cells => if cells.all one = true ∧ len * s ≤ cells.size then some (.slice (some ⟨h.size, 0, none⟩) len (len + 1), h.new e cells.toList) else none)
      else none)
  | _ => none
def amakeSlice (P : Program) (h : Heap) (t : TypeId) (l c : Value) : Option (Value × Heap) :=
  match P.underlying t, l, c with
  | some (.slice e), .int _ l, .int _ c =>
    (match P.info? e, azero P e with
    | some i, some z =>
      if 0 ≤ l ∧ l ≤ c ∧ c ≤ 140737488355328 ∧ (i.bytes : Int) * c ≤ 281474976710656 ∧ z.cells.all one = true ∧ z.cells.size = i.size then
        some (.slice (some ⟨h.size, 0, none⟩) l.toNat (c.toNat + 1), h.new e (firstOf (c.toNat * i.size) z.cells).toList)
      else none
    | _, _ => none)
  | _, _, _ => none
def aeff (P : Program) (tm : Tm) (h : Heap) : Op → Option (Value × Heap)
  | .alloc e => (match azero P e, asz P e with | some z, some _ => if z.cells.all one = true then some (.pointer (some ⟨h.size, 0, none⟩), h.new e z.cells.toList) else none | _, _ => none)
  | .box e x => (match asz P e with | some _ => if (ev tm x).cells.all one = true then some (.pointer (some ⟨h.size, 0, none⟩), h.new e (ev tm x).cells.toList) else none | none => none)
  | .buildSlice t len parts => abuildSlice P h t len (parts.map fun (i, x) => (i, ev tm x))
  | .makeSlice t l c => amakeSlice P h t (ev tm l) (ev tm c)
  | .store t p x => (match astore P h t (ev tm p) (ev tm x) with | some h' => some (undef, h') | none => none)
  | .call { callee := .builtin .append, args := args, argTypes := ts } =>
    (match args.toList, ts.toList with | [s, x], [t, t2] => aappend P h t t2 (ev tm s) (ev tm x) | _, _ => none)
  | .call { callee := .builtin .clear, args := args, argTypes := ts } => (match args.toList, ts.toList with | [x], [t] => aclear P h t (ev tm x) | _, _ => none)
  | .call { callee := .builtin .copy, args := args, argTypes := ts } => (match args.toList, ts.toList with | [d, x], [t, _] => acopy P h t (ev tm d) (ev tm x) | _, _ => none)
  | .call { callee := .builtin .delete, args := args, argTypes := ts } => (match args.toList, ts.toList with | [m, k], [t, _] => adeleteM P h t (ev tm m) (ev tm k) | _, _ => none)
  | .makeMap t none => amakeMapM P h t
  | .lookup t m k ok => alookupM P h t (ev tm m) (ev tm k) ok
  | .mapUpdate t m k x => amapUpdateM P h t (ev tm m) (ev tm k) (ev tm x)
  | .call { callee := .builtin .len, args := args, argTypes := ts } => (match args.toList, ts.toList with | [x], [t] => alenMap P h t (ev tm x) | _, _ => none)
  | .convert s t x => aconvE P h s t (ev tm x)
  | _ => none

section
variable {P : Program} {w0 w : World} {ρ : Ren} {h : Heap} {n : Nat} {tm : Tm} {a : Act}
theorem all_one {cs : Array Value} (h1 : cs.all one = true) : ∀ v, v ∈ cs.toList → one v = true := fun v hv => (Array.all_eq_true'.1 h1) v (by simpa using hv)
theorem all_one' {cs cs' : Array Value} (hc : AR ρ cs cs') (h1 : cs.all one = true) : ∀ v, v ∈ cs'.toList → one v = true := fun v hv => by
  obtain ⟨j, hj⟩ := List.mem_iff_getElem?.1 hv
  rw [Array.getElem?_toList] at hj
  have hjl := (Array.getElem?_eq_some_iff.1 hj).1
  have hjn : j < cs.size := by have := hc.1; omega
  have := hc.2 j cs[j] v (by simp [hjn]) hj
  rw [this.one_eq]
  exact all_one h1 _ (by simp)
theorem store_rel (H : HRel P w0 ρ h w) {t : TypeId} {p p' v v' : Value} (hp : VR ρ p p') (hv : VR ρ v v') {h' : Heap} (hs : astore P h t p v = some h') :
    ∃ w', (Instr.storeAt t p' v').run P w = .ok () w' ∧ HRel P w0 ρ h' w' := by
  unfold astore at hs
  split at hs
  · rename_i a
    split at hs
    · cases hs
    rename_i k hk
    split at hs
    · rename_i hl
      obtain ⟨l1, l2, l3, l4, l5⟩ := hl
      cases hs
      obtain ⟨a', rfl, hsp, L, hL, rfl⟩ := hp.ptr_inv
      have B := H.br hk hL
      obtain ⟨_, htop, arr, tt, fr, ha, hsz, hfr⟩ := B.own l2
      have hc := hv.cells
      obtain ⟨w1, s1, s2, s3, s4, s5, s6, arr', s7, s8, s9⟩ := run_cells (P := P) L.blk (L.off + a.off) tt fr v'.cells.toList 0 arr w (all_one' hc l5) ha (by have := hc.1; simp; omega) (fun j hj => hfr.2.1 j (by omega))
      refine ⟨w1, ?_, H.stored hk hL l1 l2 (i := a.off) (vs := v.cells.toList) (vs' := v'.cells.toList) (by simpa using l4) (by simpa using hc.1.symm) (fun j x y hx hy => ⟨all_one l5 x (List.mem_of_getElem? hx), hc.2 j x y (by simpa using hx) (by simpa using hy)⟩) s2 s3 s4 s5 s6
        (fun arr2 t2 fr2 h2 => by rw [ha] at h2; cases h2; exact ⟨arr', s7, s8, fun j => by rw [s9 j]; simp only [Nat.add_zero]⟩)⟩
      have hsz2 : (sizeOf t).run P w = .ok v'.cells.size w := by rw [← hc.1]; exact run_sizeOf l3 w
      simp [Instr.storeAt, Instr.sureAddr, storeVar, hsz2, s1]
    · cases hs
  · cases hs
theorem firstOf_rel {zero : Array Value} (hz : AR ρ zero zero) (i : Nat) (h0 : i ≠ 0 → 0 < zero.size) : AR ρ (firstOf i zero) (firstOf i zero) := by
  refine ⟨rfl, fun j x y hx hy => ?_⟩
  rw [hx] at hy; cases hy
  simp only [firstOf, Array.getElem?_map, Option.map_eq_some_iff] at hx
  obtain ⟨q, hq, rfl⟩ := hx
  have hj : j < i := by have := (Array.getElem?_eq_some_iff.1 hq).1; simpa using this
  have hq' : q = j := by simp [Array.getElem?_range, hj] at hq; exact hq.symm
  subst hq'
  have hpos := h0 (by omega)
  have hlt : q % zero.size < zero.size := Nat.mod_lt _ hpos
  have : zero[q % zero.size]! = zero[q % zero.size] := getElem!_pos zero _ hlt
  rw [this]
  exact hz.2 _ _ _ (Array.getElem?_eq_getElem hlt) (Array.getElem?_eq_getElem hlt)
theorem buildSlice_rel (H : HRel P w0 ρ h w) {t : TypeId} {len : Nat} {ps ps' : Array (Nat × Value)} (hl : ps.size = ps'.size) (hp : ∀ (i : Nat) (p q : Nat × Value), ps[i]? = some p → ps'[i]? = some q → p.1 = q.1 ∧ VR ρ p.2 q.2)
    {v : Value} {h' : Heap} (hv : abuildSlice P h t len ps = some (v, h')) : ∃ v' w' ρ', (Instr.buildSlice t len ps').run P w = .ok v' w' ∧ RenLe ρ ρ' ∧ HRel P w0 ρ' h' w' ∧ VR ρ' v v' := by
  unfold abuildSlice at hv
  split at hv
  · rename_i e hd
    split at hv
    · cases hv
    rename_i s hs
    split at hv
    · rename_i hlim
      split at hv
      · cases hv
      rename_i zero hzero
      split at hv
      · cases hv
      rename_i cells hcells
      split at hv
      · rename_i hone
        cases hv
        have hz : (if len * s = 0 then pure #[] else do pure (← zeroValue e).cells : Sem (Array Value)).run P w = .ok zero w ∧ AR ρ zero zero ∧ (len * s ≠ 0 → 0 < zero.size ∨ zero = #[]) := by
          split at hzero
          · rename_i h0
            cases hzero
            exact ⟨by simp [h0], AR.nil, fun h1 => absurd h0 h1⟩
          · rename_i h0
            obtain ⟨z, hz, rfl⟩ := Option.map_eq_some_iff.1 hzero
            obtain ⟨z1, z2, _⟩ := azero_rel (w := w) (ρ := ρ) hz
            refine ⟨by simp [h0, z1], z2, fun _ => ?_⟩
            by_cases e0 : z.cells.size = 0
            · exact .inr (by simpa using e0)
            · exact .inl (by omega)
        obtain ⟨z1, z2, z3⟩ := hz
        have hF : AR ρ (firstOf (len * s) zero) (firstOf (len * s) zero) := by
          by_cases h0 : len * s = 0
          · rw [h0]; exact firstOf_rel z2 0 (fun h => absurd rfl h)
          · rcases z3 h0 with h1 | h1
            · exact firstOf_rel z2 _ (fun _ => h1)
            · subst h1
              refine ⟨rfl, fun j x y hx hy => ?_⟩
              rw [hx] at hy; cases hy
              simp only [firstOf, Array.getElem?_map, Option.map_eq_some_iff] at hx
              obtain ⟨q, hq, rfl⟩ := hx
              exact constOk_VR rfl
        obtain ⟨cells', hr1, hr2⟩ := fill_rel (ρ := ρ) (fun i => some (i * s, s)) ps.toList ps'.toList _ _ (by simpa using hl) (fun i p q h1 h2 => hp i p q (by simpa using h1) (by simpa using h2)) hF cells hcells
        obtain ⟨ρ', r1, r2, r3⟩ := new_rel H hs (all_one hone.1) (cs := cells') (by simpa using hr2) #[]
        simp only [Array.append_empty] at r2 r3
        have hrun : (Instr.buildSlice t len ps').run P w = .ok (.slice (some ⟨w.heap.size, 0, none⟩) len len) (w.alloc (.cells cells' e)) := by
          have hlim' : ¬ (len * s > 2 ^ 24) := by omega
          have hr1' : Instr.fill (fun i => some (i * s, s)) ((Array.range (len * s)).map (zero[· % zero.size]!)) ps'.toList = some cells' := hr1
          by_cases h0 : len * s = 0
          · rw [if_pos h0] at hzero; cases hzero
            simp only [Instr.buildSlice, Sem.run_bind, run_underlying hd, Result.andThen_ok, run_sizeOf hs, if_neg hlim', if_pos h0, Sem.run_pure, hr1']
            simp [newRow]
          · rw [if_neg h0] at hzero
            obtain ⟨z, hz, rfl⟩ := Option.map_eq_some_iff.1 hzero
            obtain ⟨zz1, _⟩ := azero_rel (w := w) (ρ := ρ) hz
            simp only [Instr.buildSlice, Sem.run_bind, run_underlying hd, Result.andThen_ok, run_sizeOf hs, if_neg hlim', if_neg h0, Sem.run_pure, zz1, hr1']
            simp [newRow]
        refine ⟨_, _, ρ', hrun, r1, r2, VR.slice ⟨rfl, Nat.le_refl _, .inr rfl, .inl ⟨rfl, _, r3, by simp, ?_⟩⟩⟩
        have := hr2.1
        simp; omega
      · cases hv
    · cases hv
  · cases hv
theorem firstOf_size (i : Nat) (z : Array Value) : (firstOf i z).size = i := by simp [firstOf]
theorem firstOf_one {i : Nat} {z : Array Value} (h0 : i ≠ 0 → 0 < z.size) (h1 : z.all one = true) : (firstOf i z).all one = true := by
  refine Array.all_eq_true'.2 fun x hx => ?_
  simp only [firstOf, Array.mem_map, Array.mem_range] at hx
  obtain ⟨q, hq, rfl⟩ := hx
  have hpos := h0 (by omega)
  have hlt : q % z.size < z.size := Nat.mod_lt _ hpos
  rw [getElem!_pos z _ hlt]
  exact (Array.all_eq_true'.1 h1) _ (Array.getElem_mem hlt)
theorem makeSlice_rel (H : HRel P w0 ρ h w) {t : TypeId} {l c l' c' : Value} (hl : VR ρ l l') (hc : VR ρ c c') {v : Value} {h' : Heap} (hv : amakeSlice P h t l c = some (v, h')) :
    ∃ v' w' ρ', (Instr.makeSlice t l' c').run P w = .ok v' w' ∧ RenLe ρ ρ' ∧ HRel P w0 ρ' h' w' ∧ VR ρ' v v' := by
  unfold amakeSlice at hv
  split at hv
  · rename_i e k1 x k2 y hd
    split at hv
    · rename_i i z hi hz
      split at hv
      · rename_i hcond
        obtain ⟨q1, q2, q3, q4, q5, q6⟩ := hcond
        cases hv
        rw [hl.int_inv, hc.int_inv]
        obtain ⟨z1, z2, i', hi', hz'⟩ := azero_rel (w := w) (ρ := ρ) hz
        have hs : asz P e = some i.size := by simp [asz, hi]
        have hpos : y.toNat * i.size ≠ 0 → 0 < z.cells.size := fun h0 => by
          rw [q6]; rcases Nat.eq_zero_or_pos i.size with h1 | h1
          · rw [h1] at h0; simp at h0
          · exact h1
        have hF := firstOf_rel z2 (y.toNat * i.size) hpos
        obtain ⟨ρ', r1, r2, r3⟩ := new_rel H hs (all_one (firstOf_one hpos q5)) (cs := firstOf (y.toNat * i.size) z.cells) (by simpa using hF) #[]
        simp only [Array.append_empty] at r2 r3
        have wx : IntKind.i64.wrap x = x := by simp [IntKind.wrap, IntKind.bits, IntKind.signed]; omega
        have wy : IntKind.i64.wrap y = y := by simp [IntKind.wrap, IntKind.bits, IntKind.signed]; omega
        have hrun : (Instr.makeSlice t (.int k1 x) (.int k2 y)).run P w = .ok (.slice (some ⟨w.heap.size, 0, none⟩) x.toNat y.toNat) (w.alloc (.cells (firstOf (y.toNat * i.size) z.cells) e)) := by
          have c1 : ¬ (281474976710656 < (i.bytes : Int) * y) := by omega
          have c2 : ¬ (y < 0) := by omega
          have c3 : ¬ (x < 0) := by omega
          have c4 : ¬ (y < x) := by omega
          have hask : ∀ b, (askRoom b).run P w = .ok () w := fun b => by unfold askRoom; split <;> simp [mark, Sem.run]
          by_cases h0 : y.toNat * i.size = 0
          · simp [Instr.makeSlice, run_underlying hd, asInt, asIntOf, typeInfo, hi, wx, wy, c1, c2, c3, c4, sizeOf, h0, newRow, firstOf, hask]
            simp only [Array.range_zero', Array.map_empty]
          · simp [Instr.makeSlice, run_underlying hd, asInt, asIntOf, typeInfo, hi, wx, wy, c1, c2, c3, c4, sizeOf, h0, newRow, firstOf, hask, z1]
        refine ⟨_, _, ρ', hrun, r1, r2, VR.slice ⟨rfl, by omega, .inr rfl, .inl ⟨rfl, _, r3, by simp, ?_⟩⟩⟩
        simp [firstOf_size]
      · cases hv
    · cases hv
  · cases hv

/-- All of them. -/
theorem aeff_sound (H : HRel P w0 ρ h w) (T : TR ρ n tm a) {o : Oper} (hok : ∀ x, x ∈ o.op.operands → oprOk P n x = true) {v : Value} {h' : Heap} (hv : aeff P tm h o.op = some (v, h')) :
    ∃ v' w' ρ', ((execOp a.eval o).run P w = .ok (.value v') w' ∨ (v' = undef ∧ (execOp a.eval o).run P w = .ok .skip w')) ∧ RenLe ρ ρ' ∧ HRel P w0 ρ' h' w' ∧ VR ρ' v v' := by
  obtain ⟨dst, op, ty, pos, aft, g⟩ := o
  simp only at hok hv
  unfold aeff at hv
  split at hv
  · rename_i e
    split at hv
    · rename_i z s hz hs
      split at hv
      · rename_i hone
        cases hv
        obtain ⟨z1, z2, _⟩ := azero_rel (w := w) (ρ := ρ) hz
        obtain ⟨ρ', r1, r2, r3⟩ := new_rel H hs (all_one hone) (cs := z.cells) (by simpa using z2) #[]
        simp only [Array.append_empty] at r2 r3
        exact ⟨_, _, ρ', .inl (by simp [execOp, Instr.alloc, z1, newVar, newRow]), r1, r2, VR.ptr ⟨rfl, _, r3, rfl⟩⟩
      · cases hv
    · cases hv
  · rename_i e x
    split at hv
    · rename_i s hs
      split at hv
      · rename_i hone
        cases hv
        have hc := (ev_rel H T (hok x (by simp [Op.operands]))).cells
        obtain ⟨ρ', r1, r2, r3⟩ := new_rel H hs (all_one hone) (cs := (a.eval x).cells) (by simpa using hc) #[]
        simp only [Array.append_empty] at r2 r3
        exact ⟨_, _, ρ', .inl (by simp [execOp, Instr.box, newVar, newRow]), r1, r2, VR.ptr ⟨rfl, _, r3, rfl⟩⟩
      · cases hv
    · cases hv
  · rename_i t len parts
    obtain ⟨v', w', ρ', h1, h2, h3, h4⟩ := buildSlice_rel H (ps := parts.map fun (i, x) => (i, ev tm x)) (ps' := parts.map fun (i, x) => (i, a.eval x)) (by simp) (fun i p q h1 h2 => by
      simp only [Array.getElem?_map, Option.map_eq_some_iff] at h1 h2
      obtain ⟨x, hx, rfl⟩ := h1
      obtain ⟨y, hy, rfl⟩ := h2
      rw [hx] at hy; cases hy
      refine ⟨rfl, ev_rel H T (hok x.2 ?_)⟩
      have hm := Array.mem_of_getElem? hx
      simp only [Op.operands, List.mem_toArray, List.mem_map]
      exact ⟨x, by simpa using hm, rfl⟩) hv
    exact ⟨v', w', ρ', .inl (by simp [execOp, h1]), h2, h3, h4⟩
  · rename_i t l c
    obtain ⟨v', w', ρ', h1, h2, h3, h4⟩ := makeSlice_rel H (ev_rel H T (hok l (by simp [Op.operands]))) (ev_rel H T (hok c (by simp [Op.operands]))) hv
    exact ⟨v', w', ρ', .inl (by simp [execOp, h1]), h2, h3, h4⟩
  · rename_i t p x
    split at hv
    · rename_i h2 hs
      cases hv
      obtain ⟨w', s1, s2⟩ := store_rel H (ev_rel H T (hok p (by simp [Op.operands]))) (ev_rel H T (hok x (by simp [Op.operands]))) hs
      exact ⟨undef, w', ρ, .inr ⟨rfl, by simp [execOp, s1]⟩, RenLe.refl _, s2, VR.undef⟩
    · cases hv
  · rename_i args ts
    split at hv
    · rename_i s x t t2 ha hts
      have ea : args = #[s, x] := by apply Array.ext'; simpa using ha
      have et : ts = #[t, t2] := by apply Array.ext'; simpa using hts
      subst ea; subst et
      obtain ⟨v', w', ρ', h1, h2, h3, h4⟩ := append_rel (ty := ty) H (ev_rel H T (hok s (by simp [Op.operands, Call.operands]))) (ev_rel H T (hok x (by simp [Op.operands, Call.operands]))) hv
      exact ⟨v', w', ρ', .inl (by simp [execOp, resolve, invoke, builtin, h1]), h2, h3, h4⟩
    · cases hv
  · rename_i args ts
    split at hv
    · rename_i x t ha hts
      have ea : args = #[x] := by apply Array.ext'; simpa using ha
      have et : ts = #[t] := by apply Array.ext'; simpa using hts
      subst ea; subst et
      obtain ⟨rfl, w', h1, h2⟩ := clear_rel (ts := #[t]) (ty := ty) H rfl (ev_rel H T (hok x (by simp [Op.operands, Call.operands]))) hv
      exact ⟨undef, w', ρ, .inl (by simp [execOp, resolve, invoke, builtin, h1]; rfl), RenLe.refl _, h2, VR.undef⟩
    · cases hv
  · rename_i args ts
    split at hv
    · rename_i d x t t2 ha hts
      have ea : args = #[d, x] := by apply Array.ext'; simpa using ha
      have et : ts = #[t, t2] := by apply Array.ext'; simpa using hts
      subst ea; subst et
      obtain ⟨w', h1, h2, h3⟩ := copy_rel (ts := #[t, t2]) (ty := ty) H rfl (ev_rel H T (hok d (by simp [Op.operands, Call.operands]))) (ev_rel H T (hok x (by simp [Op.operands, Call.operands]))) hv
      exact ⟨_, w', ρ, .inl (by simp [execOp, resolve, invoke, builtin, h1]), RenLe.refl _, h2, h3⟩
    · cases hv
  · rename_i args ts
    split at hv
    · rename_i m k t t2 ha hts
      have ea : args = #[m, k] := by apply Array.ext'; simpa using ha
      have et : ts = #[t, t2] := by apply Array.ext'; simpa using hts
      subst ea; subst et
      obtain ⟨rfl, w', h1, h2⟩ := deleteM_rel (ts := #[t, t2]) (ty := ty) H rfl (ev_rel H T (hok m (by simp [Op.operands, Call.operands]))) (ev_rel H T (hok k (by simp [Op.operands, Call.operands]))) hv
      exact ⟨undef, w', ρ, .inl (by simp [execOp, resolve, invoke, builtin, h1]; rfl), RenLe.refl _, h2, VR.undef⟩
    · cases hv
  · rename_i t
    obtain ⟨v', w', ρ', h1, h2, h3, h4⟩ := makeMapM_rel H hv
    exact ⟨v', w', ρ', .inl (by simp [execOp, h1]), h2, h3, h4⟩
  · rename_i t m k ok
    obtain ⟨rfl, v', h1, h2⟩ := lookupM_rel H (ev_rel H T (hok m (by simp [Op.operands]))) (ev_rel H T (hok k (by simp [Op.operands]))) hv
    exact ⟨v', w, ρ, .inl (by simp [execOp, h1]), RenLe.refl _, H, h2⟩
  · rename_i t m k x
    obtain ⟨rfl, w', h1, h2⟩ := mapUpdateM_rel H (ev_rel H T (hok m (by simp [Op.operands]))) (ev_rel H T (hok k (by simp [Op.operands]))) (ev_rel H T (hok x (by simp [Op.operands]))) hv
    exact ⟨undef, w', ρ, .inr ⟨rfl, by simp [execOp, h1]⟩, RenLe.refl _, h2, VR.undef⟩
  · rename_i args ts
    split at hv
    · rename_i x t ha hts
      have ea : args = #[x] := by apply Array.ext'; simpa using ha
      have et : ts = #[t] := by apply Array.ext'; simpa using hts
      subst ea; subst et
      obtain ⟨rfl, h1, h2⟩ := lenMap_rel (ts := #[t]) (ty := ty) H rfl (ev_rel H T (hok x (by simp [Op.operands, Call.operands]))) hv
      exact ⟨_, w, ρ, .inl (by simp [execOp, resolve, invoke, builtin, h1]), RenLe.refl _, H, h2⟩
    · cases hv
  · rename_i s t x
    obtain ⟨v', w', ρ', h1, h2, h3, h4⟩ := convE_rel H (ev_rel H T (hok x (by simp [Op.operands]))) hv
    exact ⟨v', w', ρ', .inl (by simp [execOp, h1]), h2, h3, h4⟩
  · cases hv
end
end Go.Proofs.YthmpaddhmgnkbaaDoor.Am
end
