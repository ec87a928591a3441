/- The frame Am, a text ahead of the ninth: objects that lie beside the cells: where they are made or turned; maps with whole numbers for keys, told. Nothing of a program stands here. -/
import Derived.Test.YtgfccaaalkkdlaaAmEff2
import Derived.Laws.IdiomStrings
set_option linter.unusedVariables false
set_option linter.unusedSimpArgs false
namespace Go.Proofs.Ytgfccaaalkkdlaa.Am
open Go Go.RowKit
section
variable {P : Program} {w0 w : World} {ρ : Ren} {h : Heap}
theorem HRel.beside (H : HRel P w0 ρ h w) {l : Nat} {o o' : Obj} (hl : w0.heap.size ≤ l) (ho : w.heap[l]? = some o) (hc : cellsO o = false) {h' : Heap} (hs : h'.size = h.size) (hg : h'.get = h.get) (M : More w0 ρ h' (w.putObj l o')) : HRel P w0 ρ h' (w.putObj l o') := by
  have oth : ∀ x, x ≠ l → (w.putObj l o').heap[x]? = w.heap[x]? := fun x hx => World.putObj_heap_other hx
  refine ⟨⟨H.below.os, H.below.tape, H.below.output, by rw [World.putObj_size]; exact H.below.size, fun x hx => (oth x (by omega)).trans (H.below.block x hx)⟩, fun b hb => by rw [hg]; exact H.dom b (by omega), fun b k hk => H.fam b k (by rw [← hg]; exact hk), fun b k hk => ?_, fun b hb => H.fresh b (by omega),
    fun b1 b2 k1 k2 L1 L2 h1 h2 => H.sep b1 b2 k1 k2 L1 L2 (by rw [← hg]; exact h1) (by rw [← hg]; exact h2), fun b1 b2 k1 k2 L1 L2 hne h1 h2 => H.tails b1 b2 k1 k2 L1 L2 hne (by rw [← hg]; exact h1) (by rw [← hg]; exact h2), H.globs, M⟩
  rw [hg] at hk
  obtain ⟨L, hL, B⟩ := H.lies b k hk
  refine ⟨L, hL, fun hl' i v hv => ?_, B.came, fun hr => ?_, B.info⟩
  · obtain ⟨q1, v', q2, q3⟩ := B.reads hl' i v hv
    refine ⟨q1, v', (cell_eq (oth _ ?_)).trans q2, q3⟩
    intro e
    simp only [World.cell?, e, ho] at q2
    cases o <;> simp_all [cellsO]
  · obtain ⟨q1, q2, arr, t, fr, q3, q4⟩ := B.own hr
    exact ⟨q1, q2, arr, t, fr, (oth _ fun e => by rw [e, ho] at q3; cases q3; cases hc).trans q3, q4⟩
theorem HRel.oput (H : HRel P w0 ρ h w) {b : Nat} {ao ao' : AObj} {L : Loc} {o' : Obj} (hb : h.obj b = some ao) (hL : ρ b = some L) (hr : ObjR ρ ao' o') : HRel P w0 ρ (h.oput b ao') (w.putObj L.blk o') := by
  obtain ⟨hlt, L', o, g1, g2, g3, g4, g5⟩ := H.mo.objs b ao hb
  rw [hL] at g1; cases g1
  have oth : ∀ x, x ≠ L.blk → (w.putObj L.blk o').heap[x]? = w.heap[x]? := fun x hx => World.putObj_heap_other hx
  refine H.beside g3 g4 g5.kind.1 rfl rfl ⟨fun x a hx => ?_, fun b1 b2 a1 a2 L1 L2 hne h1 h2 => ?_, fun x L2 hx hm => ?_, H.mo.marksep⟩
  · by_cases e : x = b
    · subst e
      simp only [Heap.oput, if_true, Option.some.injEq] at hx
      subst hx
      exact ⟨hlt, L, o', hL, g2, g3, World.putObj_heap_same (Array.getElem?_eq_some_iff.1 g4).1, hr⟩
    · simp only [Heap.oput, if_neg e] at hx
      obtain ⟨q1, L2, o2, q2, q3, q4, q5, q6⟩ := H.mo.objs x a hx
      exact ⟨q1, L2, o2, q2, q3, q4, (oth _ (H.mo.objsep x b a ao L2 L e hx hb q2 hL)).trans q5, q6⟩
  · have back : ∀ x a, (h.oput b ao').obj x = some a → ∃ a', h.obj x = some a' := fun x a hx => by
      by_cases e : x = b
      · subst e; exact ⟨_, hb⟩
      · simp only [Heap.oput, if_neg e] at hx; exact ⟨_, hx⟩
    obtain ⟨c1, e1⟩ := back _ _ h1
    obtain ⟨c2, e2⟩ := back _ _ h2
    exact H.mo.objsep b1 b2 c1 c2 L1 L2 hne e1 e2
  · obtain ⟨q1, q2⟩ := H.mo.marks x L2 hx hm
    refine ⟨q1, (oth _ fun e => ?_).trans q2⟩
    rw [e, g4] at q2; cases q2
    have := g5.kind.2; cases this
/-- A place more, behind all there were. -/
theorem HRel.aside (H : HRel P w0 ρ h w) {o : Obj} {L : Loc} {h' : Heap} (hs : h'.size = h.size + 1) (hg : h'.get = h.get) (M : More w0 (Ren.add ρ h.size L) h' (w.alloc o)) : HRel P w0 (Ren.add ρ h.size L) h' (w.alloc o) := by
  have K := H.keep (below_alloc' w o)
  have hle := H.le_add L
  have old : ∀ {b k}, h.get b = some k → Ren.add ρ h.size L b = ρ b := fun hk => Ren.add_ne (by have := H.lt hk; omega)
  refine ⟨K.below, fun b hb => by rw [hg]; exact H.dom b (by omega), fun b k hk => H.fam b k (by rw [← hg]; exact hk), fun b k hk => ?_, fun b hb => by rw [Ren.add_ne (by omega)]; exact H.fresh b (by omega),
    fun b1 b2 k1 k2 L1 L2 h1 h2 r1 r2 => ?_, fun b1 b2 k1 k2 L1 L2 hne h1 h2 r1 r2 => ?_, fun g hg => by obtain ⟨L, h1, h2⟩ := H.globs g hg; exact ⟨L, hle _ _ h1, h2⟩, M⟩
  · rw [hg] at hk
    obtain ⟨L1, hL, B⟩ := K.lies b k hk
    refine ⟨L1, hle _ _ hL, fun hl i v hv => ?_, B.came, B.own, B.info⟩
    obtain ⟨q1, v', q2, q3⟩ := B.reads hl i v hv
    exact ⟨q1, v', q2, q3.mono hle⟩
  · rw [hg] at h1 h2
    rw [old h1] at r1; rw [old h2] at r2
    exact H.sep b1 b2 k1 k2 L1 L2 h1 h2 r1 r2
  · rw [hg] at h1 h2
    rw [old h1] at r1; rw [old h2] at r2
    exact H.tails b1 b2 k1 k2 L1 L2 hne h1 h2 r1 r2
theorem HRel.mark (H : HRel P w0 ρ h w) : HRel P w0 (Ren.add ρ h.size ⟨w.heap.size, 0, 0, 0, true⟩) h.more (w.alloc (.deferred (some []))) := by
  have hb := below_alloc' w (.deferred (some []))
  have lt : ∀ {l : Nat} {o : Obj}, w.heap[l]? = some o → l < w.heap.size := fun h => (Array.getElem?_eq_some_iff.1 h).1
  have hle := H.le_add ⟨w.heap.size, 0, 0, 0, true⟩
  refine H.aside rfl rfl ⟨fun b ao hx => ?_, fun b1 b2 a1 a2 L1 L2 hne h1 h2 r1 r2 => ?_, fun b L hL hm => ?_, fun b1 b2 L1 L2 hne r1 r2 m1 m2 => ?_⟩
  · obtain ⟨q1, L, o, q2, q3, q4, q5, q6⟩ := H.mo.objs b ao hx
    exact ⟨Nat.lt_succ_of_lt q1, L, o, hle _ _ q2, q3, q4, (hb.block _ (lt q5)).trans q5, q6.mono hle⟩
  · obtain ⟨q1, _⟩ := H.mo.objs b1 a1 h1
    obtain ⟨q2, _⟩ := H.mo.objs b2 a2 h2
    rw [Ren.add_ne (by omega)] at r1 r2
    exact H.mo.objsep b1 b2 a1 a2 L1 L2 hne h1 h2 r1 r2
  · by_cases e : b = h.size
    · subst e
      rw [Ren.add_self] at hL; cases hL
      exact ⟨H.below.size, World.alloc_heap_new w _⟩
    · rw [Ren.add_ne e] at hL
      obtain ⟨q1, q2⟩ := H.mo.marks b L hL hm
      exact ⟨q1, (hb.block _ (lt q2)).trans q2⟩
  · have blt : ∀ {b L}, ρ b = some L → L.mrk = true → L.blk < w.heap.size := fun hL hm => lt (H.mo.marks _ _ hL hm).2
    by_cases e1 : b1 = h.size <;> by_cases e2 : b2 = h.size
    · omega
    · subst e1; rw [Ren.add_self] at r1; cases r1
      rw [Ren.add_ne e2] at r2
      have := blt r2 m2
      simp only; omega
    · subst e2; rw [Ren.add_self] at r2; cases r2
      rw [Ren.add_ne e1] at r1
      have := blt r1 m1
      simp only; omega
    · rw [Ren.add_ne e1] at r1; rw [Ren.add_ne e2] at r2
      exact H.mo.marksep b1 b2 L1 L2 hne r1 r2 m1 m2
theorem HRel.opush (H : HRel P w0 ρ h w) {ao : AObj} {o : Obj} (hr : ObjR ρ ao o) : HRel P w0 (Ren.add ρ h.size ⟨w.heap.size, 0, 0, 0, false⟩) (h.opush ao) (w.alloc o) := by
  have hb := below_alloc' w o
  have lt : ∀ {l : Nat} {o : Obj}, w.heap[l]? = some o → l < w.heap.size := fun h => (Array.getElem?_eq_some_iff.1 h).1
  have hle := H.le_add ⟨w.heap.size, 0, 0, 0, false⟩
  have obj_ne : ∀ {x a}, x ≠ h.size → (h.opush ao).obj x = some a → h.obj x = some a := fun e hx => by simpa [Heap.opush, Heap.oput, Heap.more, e] using hx
  refine H.aside rfl rfl ⟨fun b a hx => ?_, fun b1 b2 a1 a2 L1 L2 hne h1 h2 r1 r2 => ?_, fun b L hL hm => ?_, fun b1 b2 L1 L2 hne r1 r2 m1 m2 => H.mo.marksep b1 b2 L1 L2 hne (Ren.add_mk rfl _ _ r1 m1) (Ren.add_mk rfl _ _ r2 m2) m1 m2⟩
  · by_cases e : b = h.size
    · subst e
      simp only [Heap.opush, Heap.oput, if_true, Option.some.injEq] at hx
      subst hx
      exact ⟨Nat.lt_succ_self _, _, o, Ren.add_self, rfl, H.below.size, World.alloc_heap_new w o, hr.mono hle⟩
    · obtain ⟨q1, L, o2, q2, q3, q4, q5, q6⟩ := H.mo.objs b a (obj_ne e hx)
      exact ⟨Nat.lt_succ_of_lt q1, L, o2, hle _ _ q2, q3, q4, (hb.block _ (lt q5)).trans q5, q6.mono hle⟩
  · have blt : ∀ {b a L}, h.obj b = some a → ρ b = some L → L.blk < w.heap.size := fun ha hL => by
      obtain ⟨_, L', o', g1, _, _, g4, _⟩ := H.mo.objs _ _ ha
      rw [hL] at g1; cases g1
      exact lt g4
    by_cases e1 : b1 = h.size <;> by_cases e2 : b2 = h.size
    · omega
    · subst e1; rw [Ren.add_self] at r1; cases r1
      rw [Ren.add_ne e2] at r2
      have := blt (obj_ne e2 h2) r2
      simp only; omega
    · subst e2; rw [Ren.add_self] at r2; cases r2
      rw [Ren.add_ne e1] at r1
      have := blt (obj_ne e1 h1) r1
      simp only; omega
    · rw [Ren.add_ne e1] at r1; rw [Ren.add_ne e2] at r2
      exact H.mo.objsep b1 b2 a1 a2 L1 L2 hne (obj_ne e1 h1) (obj_ne e2 h2) r1 r2
  · have hL' := Ren.add_mk rfl _ _ hL hm
    obtain ⟨q1, q2⟩ := H.mo.marks b L hL' hm
    exact ⟨q1, (hb.block _ (lt q2)).trans q2⟩
end
/-- The kind of a map's keys. -/
def mapOf (P : Program) (t : TypeId) : Option (IntKind × TypeId) :=
  match P.underlying t with
  | some (.map key e) => (match P.underlying key with | some (.int k) => some (k, e) | _ => none)
  | _ => none
/-- Is a key in a map, and where? -/
def findE (x : Int) : List (Int × Value) → Option Nat
  | [] => none
  | e :: es => if e.1 = x then some 0 else (findE x es).map (· + 1)
def getE (es : List (Int × Value)) (x : Int) : Option Value := (findE x es).bind fun i => es[i]?.map (·.2)
def putE (es : List (Int × Value)) (x : Int) (v : Value) : List (Int × Value) := match findE x es with | some i => es.set i (x, v) | none => es ++ [(x, v)]
def delE (es : List (Int × Value)) (x : Int) : List (Int × Value) := match findE x es with | some i => es.eraseIdx i | none => es
def amakeMap (P : Program) (h : Heap) (t : TypeId) : Option (Value × Heap) :=
  match mapOf P t with
  | some (k, _) => some (.map (some h.size), h.opush (.map k []))
  | none => none
def mapAt (h : Heap) (k : IntKind) (r : Nat) : Option (List (Int × Value)) := match h.obj r with | some (.map k' es) => if k' = k then some es else none | _ => none
def alookup (P : Program) (h : Heap) (t : TypeId) (m key : Value) (ok : Bool) : Option (Value × Heap) :=
  match mapOf P t, m, key with
  | some (k, e), .map (some r), .int k' x =>
    if k' = k then (match mapAt h k r, azero P e with
      | some es, some z => (match getE es x with
        | some v => some (if ok = true then .tuple #[v, .bool true] else v, h)
        | none => some (if ok = true then .tuple #[z, .bool false] else z, h))
      | _, _ => none) else none
  | _, _, _ => none
def amapUpdate (P : Program) (h : Heap) (t : TypeId) (m key v : Value) : Option (Value × Heap) :=
  match mapOf P t, m, key with
  | some (k, _), .map (some r), .int k' x => if k' = k then (match mapAt h k r with | some es => some (undef, h.oput r (.map k (putE es x v))) | none => none) else none
  | _, _, _ => none
def adelete (P : Program) (h : Heap) (t : TypeId) (m key : Value) : Option (Value × Heap) :=
  match mapOf P t, m, key with
  | some (k, _), .map (some r), .int k' x => if k' = k then (match mapAt h k r with | some es => some (undef, h.oput r (.map k (delE es x))) | none => none) else none
  | _, _, _ => none
section
variable {P : Program} {w0 w : World} {ρ : Ren} {h : Heap}
theorem findNow_rel {k : IntKind} {x : Int} : ∀ {es : List (Int × Value)} {ms : List MapEntry} {i : Nat}, ms.length = es.length → (∀ (j : Nat) a e, es[j]? = some a → ms[j]? = some e → e.key = .int k a.1) →
    Instr.findNow (.int k) (.int k x) ms i = some ((findE x es).bind fun j => ms[j]?.map fun e => (i + j, e.val))
  | [], [], i, _, _ => rfl
  | a :: es, [], i, h, _ => by simp at h
  | [], e :: ms, i, h, _ => by simp at h
  | a :: es, e :: ms, i, hl, H => by
    have h0 := H 0 a e rfl rfl
    have ih := findNow_rel (k := k) (x := x) (es := es) (ms := ms) (i := i + 1) (by simpa using hl) (fun j b f hb hf => H (j + 1) b f (by simpa using hb) (by simpa using hf))
    simp only [Instr.findNow, h0, Instr.sameNow, if_true]
    by_cases e1 : a.1 = x
    · subst e1; simp [findE]
    · have : (x == a.1) = false := by simpa using fun h => e1 h.symm
      simp only [this, ih, findE, if_neg e1]
      cases findE x es with
      | none => rfl
      | some j => simp only [Option.map_some, Option.bind_some, List.getElem?_cons_succ]; rw [show i + 1 + j = i + (j + 1) by omega]
theorem findE_lt {x : Int} : ∀ {es : List (Int × Value)} {i : Nat}, findE x es = some i → ∃ v, es[i]? = some (x, v)
  | [], i, h => by simp [findE] at h
  | e :: es, i, h => by
    unfold findE at h
    split at h
    · rename_i e1; cases h; exact ⟨e.2, by simp [← e1]⟩
    · cases hf : findE x es with
      | none => rw [hf] at h; cases h
      | some j =>
        rw [hf] at h; cases h
        obtain ⟨v, hv⟩ := findE_lt hf
        exact ⟨v, by simpa using hv⟩
theorem map_kind {t : TypeId} {k : IntKind} {e : TypeId} (h : mapOf P t = some (k, e)) : ∃ key, P.underlying t = some (.map key e) ∧ P.underlying key = some (.int k) := by
  unfold mapOf at h
  split at h
  · rename_i key e' ht
    split at h
    · rename_i k' hk; cases h; exact ⟨key, ht, hk⟩
    · cases h
  · cases h
theorem mapAt_some {k : IntKind} {r : Nat} {es : List (Int × Value)} (h1 : mapAt h k r = some es) : h.obj r = some (.map k es) := by
  unfold mapAt at h1
  split at h1
  · rename_i k' es' ho
    split at h1
    · rename_i e; subst e; cases h1; exact ho
    · cases h1
  · cases h1
/-- Where a map that is told lies. -/
theorem map_lies (H : HRel P w0 ρ h w) {k : IntKind} {r r' : Nat} {es : List (Int × Value)} (ho : h.obj r = some (.map k es)) (hr : MR ρ r r') :
    ∃ L ms clock, ρ r = some L ∧ L.blk = r' ∧ w.heap[r']? = some (.map ms clock) ∧ ms.size = es.length ∧ ∀ (i : Nat) x e, es[i]? = some x → ms[i]? = some e → e.key = .int k x.1 ∧ VR ρ x.2 e.val := by
  obtain ⟨hlt, L, o, g1, g2, g3, g4, g5⟩ := H.mo.objs r _ ho
  obtain ⟨L', q1, q2⟩ := hr
  rw [g1] at q1; cases q1
  subst q2
  cases o <;> simp only [ObjR] at g5
  exact ⟨L, _, _, g1, rfl, g4, g5.1, g5.2⟩
theorem run_checkKey' {key : TypeId} {k : IntKind} {x : Int} {b : Bool} (hk : P.underlying key = some (.int k)) (n : Nat) : (Instr.checkKey b (n + 1) key (.int k x)).run P w = .ok () w := by
  simp [Instr.checkKey, run_underlying hk]
theorem run_checkKey {key : TypeId} {k : IntKind} {x : Int} {b : Bool} (hk : P.underlying key = some (.int k)) : (Instr.checkKey b 10000 key (.int k x)).run P w = .ok () w := run_checkKey' hk 9999
theorem run_findKey {key : TypeId} {k : IntKind} {x : Int} {es : List (Int × Value)} {ms : Array MapEntry} (hk : P.underlying key = some (.int k)) (hl : ms.size = es.length) (H : ∀ (j : Nat) a e, es[j]? = some a → ms[j]? = some e → e.key = .int k a.1) :
    (Instr.findKey key (.int k x) ms.toList).run P w = .ok ((findE x es).bind fun j => ms[j]?.map fun e => (j, e.val)) w := by
  have := findNow_rel (k := k) (x := x) (es := es) (ms := ms.toList) (i := 0) (by simpa using hl) (fun j a e ha he => H j a e ha (by simpa using he))
  simp only [Array.getElem?_toList, Nat.zero_add] at this
  simp [Instr.findKey, run_underlying hk, this]
theorem vr_of_cells {v : Value} (A : AR ρ v.cells v.cells) : VR ρ v v := by
  cases v with
  | agg cs => exact VR.agg (by simpa [Value.cells] using A)
  | _ => exact A.2 0 _ _ rfl rfl
theorem lookup_rel (H : HRel P w0 ρ h w) {t : TypeId} {m m' key key' : Value} {ok : Bool} (hm : VR ρ m m') (hk : VR ρ key key') {v : Value} {h' : Heap} (hs : alookup P h t m key ok = some (v, h')) :
    h' = h ∧ ∃ v', (Instr.lookup t m' key' ok).run P w = .ok v' w ∧ VR ρ v v' := by
  unfold alookup at hs
  split at hs
  · rename_i k e r k' x hmo
    split at hs
    · rename_i ek; subst ek
      obtain ⟨kt, ht, hkt⟩ := map_kind hmo
      split at hs
      · rename_i es z hes hz
        obtain ⟨z1, z2, _⟩ := azero_rel (w := w) (ρ := ρ) hz
        have z2 := vr_of_cells z2
        rcases hm.map_inv with ⟨e1, _⟩ | ⟨y, y', e1, rfl, hr⟩
        · cases e1
        cases e1
        rw [hk.int_inv]
        obtain ⟨L, ms, clock, g1, g2, g3, g4, g5⟩ := map_lies H (mapAt_some hes) hr
        have hf := run_findKey (w := w) (x := x) hkt g4 fun j a e ha he => (g5 j a e ha he).1
        have hg : (getObj y').run P w = .ok (.map ms clock) w := MapKept.run_getObj_map g3
        unfold getE at hs
        cases hfe : findE x es with
        | none =>
          rw [hfe] at hs hf
          simp only [Option.bind_none] at hs hf
          cases hs
          refine ⟨rfl, if ok = true then .tuple #[z, .bool false] else z, ?_, ?_⟩
          · simp [Instr.lookup, run_underlying ht, hg, run_checkKey hkt, hf, z1]
          · cases ok
            · exact z2
            · exact VR.tuple (AR.push (AR.push AR.nil z2) (VR.bool _))
        | some i =>
          obtain ⟨u, hu⟩ := findE_lt hfe
          have hi : i < ms.size := by have := (List.getElem?_eq_some_iff.1 hu).1; omega
          have hme : ms[i]? = some ms[i] := Array.getElem?_eq_getElem hi
          obtain ⟨q1, q2⟩ := g5 i _ _ hu hme
          rw [hfe] at hs hf
          simp only [Option.bind_some, hu, Option.map_some, hme] at hs hf
          cases hs
          refine ⟨rfl, if ok = true then .tuple #[ms[i].val, .bool true] else ms[i].val, ?_, ?_⟩
          · simp [Instr.lookup, run_underlying ht, hg, run_checkKey hkt, hf]
          · cases ok
            · exact q2
            · exact VR.tuple (AR.push (AR.push AR.nil q2) (VR.bool _))
      · cases hs
    · cases hs
  · cases hs
theorem run_setObj {r : Nat} {o : Obj} {ms : Array MapEntry} {clock : Nat} (h : w.heap[r]? = some (.map ms clock)) : (setObj r o).run P w = .ok () (w.putObj r o) := by simp [setObj, Sem.run, h, World.putObj]
theorem mapUpdate_rel (H : HRel P w0 ρ h w) {t : TypeId} {m m' key key' v v' : Value} (hm : VR ρ m m') (hk : VR ρ key key') (hv : VR ρ v v') {u : Value} {h' : Heap} (hs : amapUpdate P h t m key v = some (u, h')) :
    u = undef ∧ ∃ w', (Instr.mapUpdate t m' key' v').run P w = .ok () w' ∧ HRel P w0 ρ h' w' := by
  unfold amapUpdate at hs
  split at hs
  · rename_i k e r k' x hmo
    split at hs
    · rename_i ek; subst ek
      obtain ⟨kt, ht, hkt⟩ := map_kind hmo
      split at hs
      · rename_i es hes
        cases hs
        refine ⟨rfl, ?_⟩
        rcases hm.map_inv with ⟨e1, _⟩ | ⟨y, y', e1, rfl, hr⟩
        · cases e1
        cases e1
        rw [hk.int_inv]
        obtain ⟨L, ms, clock, g1, g2, g3, g4, g5⟩ := map_lies H (mapAt_some hes) hr
        have hf := run_findKey (w := w) (x := x) hkt g4 fun j a e ha he => (g5 j a e ha he).1
        have hg : (getObj y').run P w = .ok (.map ms clock) w := MapKept.run_getObj_map g3
        subst g2
        unfold putE
        cases hfe : findE x es with
        | none =>
          rw [hfe] at hf
          simp only [Option.bind_none] at hf
          refine ⟨_, by simp [Instr.mapUpdate, run_underlying ht, hg, run_checkKey hkt, hf, run_setObj g3]; rfl, H.oput (mapAt_some hes) g1 ?_⟩
          refine ⟨by simp [g4], fun i a e ha he => ?_⟩
          by_cases hi : i < es.length
          · rw [List.getElem?_append_left hi] at ha
            rw [Array.getElem?_push, if_neg (by omega)] at he
            exact g5 i a e ha he
          · rw [List.getElem?_append_right (by omega)] at ha
            have hil : i - es.length = 0 := by
              have := (List.getElem?_eq_some_iff.1 ha).1; simp at this; omega
            rw [hil] at ha
            simp only [List.getElem?_cons_zero, Option.some.injEq] at ha
            subst ha
            rw [Array.getElem?_push, if_pos (by omega)] at he
            cases he
            exact ⟨rfl, hv⟩
        | some i =>
          obtain ⟨u, hu⟩ := findE_lt hfe
          have hi : i < ms.size := by have := (List.getElem?_eq_some_iff.1 hu).1; omega
          have hme : ms[i]? = some ms[i] := Array.getElem?_eq_getElem hi
          obtain ⟨q1, q2⟩ := g5 i _ _ hu hme
          rw [hfe] at hf
          simp only [Option.bind_some, hme, Option.map_some] at hf
          have hstay : (Instr.keyThatStays (.int k' x) (.int k' x)).run P w = .ok (.int k' x) w := by simp [Instr.keyThatStays, Instr.sameBits]
          refine ⟨w.putObj L.blk (.map (ms.modify i fun e => { e with key := .int k' x, val := v' }) clock), ?_, H.oput (mapAt_some hes) g1 ?_⟩
          · simp [Instr.mapUpdate, run_underlying ht, hg, run_checkKey hkt, hf, run_setObj g3, hme, q1, hstay]
          · refine ⟨by simp [g4], fun j a e ha he => ?_⟩
            rw [Array.getElem?_modify] at he
            rw [List.getElem?_set] at ha
            by_cases hij : i = j
            · subst hij
              rw [if_pos rfl, if_pos (by omega)] at ha
              rw [if_pos rfl, hme] at he
              cases ha; cases he
              exact ⟨rfl, hv⟩
            · rw [if_neg hij] at ha he
              exact g5 j a e ha he
      · cases hs
    · cases hs
  · cases hs
theorem makeMap_rel (H : HRel P w0 ρ h w) {t : TypeId} {v : Value} {h' : Heap} (hs : amakeMap P h t = some (v, h')) :
    ∃ v' w' ρ', (Instr.makeMap t none).run P w = .ok v' w' ∧ RenLe ρ ρ' ∧ HRel P w0 ρ' h' w' ∧ VR ρ' v v' := by
  unfold amakeMap at hs
  split at hs
  · rename_i k e hmo
    cases hs
    refine ⟨.map (some w.heap.size), w.alloc (.map #[] 0), _, by simp only [Instr.makeMap, Sem.run_bind, run_newObj_alloc, Result.andThen, Sem.run_pure], H.le_add _, H.opush (o := .map #[] 0) ⟨rfl, fun i x e hx => by simp at hx⟩, VR.map ⟨_, Ren.add_self, rfl⟩⟩
  · cases hs
theorem delete_rel (H : HRel P w0 ρ h w) {t : TypeId} {m m' key key' : Value} {ts : Array TypeId} {ty : TypeId} (ht0 : ts[0]? = some t) (hm : VR ρ m m') (hk : VR ρ key key') {u : Value} {h' : Heap} (hs : adelete P h t m key = some (u, h')) :
    u = undef ∧ ∃ w', (Builtin.delete_ ts ty #[m', key']).run P w = .ok (.tuple #[]) w' ∧ HRel P w0 ρ h' w' := by
  unfold adelete at hs
  split at hs
  · rename_i k e r k' x hmo
    split at hs
    · rename_i ek; subst ek
      obtain ⟨kt, ht, hkt⟩ := map_kind hmo
      split at hs
      · rename_i es hes
        cases hs
        refine ⟨rfl, ?_⟩
        rcases hm.map_inv with ⟨e1, _⟩ | ⟨y, y', e1, rfl, hr⟩
        · cases e1
        cases e1
        rw [hk.int_inv]
        obtain ⟨L, ms, clock, g1, g2, g3, g4, g5⟩ := map_lies H (mapAt_some hes) hr
        have hf := run_findKey (w := w) (x := x) hkt g4 fun j a e ha he => (g5 j a e ha he).1
        have hg : (getObj y').run P w = .ok (.map ms clock) w := MapKept.run_getObj_map g3
        subst g2
        unfold delE
        cases hfe : findE x es with
        | none =>
          rw [hfe] at hf
          simp only [Option.bind_none] at hf
          exact ⟨_, by simp [Builtin.delete_, ht0, run_underlying ht, hg, run_checkKey hkt, hf, run_setObj g3]; rfl, H.oput (mapAt_some hes) g1 (by exact ⟨g4, g5⟩)⟩
        | some i =>
          obtain ⟨u, hu⟩ := findE_lt hfe
          have hi : i < ms.size := by have := (List.getElem?_eq_some_iff.1 hu).1; omega
          have hme : ms[i]? = some ms[i] := Array.getElem?_eq_getElem hi
          rw [hfe] at hf
          simp only [Option.bind_some, hme, Option.map_some] at hf
          refine ⟨w.putObj L.blk (.map (ms.eraseIdxIfInBounds i) clock), ?_, H.oput (mapAt_some hes) g1 ?_⟩
          · simp [Builtin.delete_, ht0, run_underlying ht, hg, run_checkKey hkt, hf, run_setObj g3]
          · have he : (ms.eraseIdxIfInBounds i).toList = ms.toList.eraseIdx i := by simp
            refine ⟨by rw [← Array.length_toList, he, List.length_eraseIdx, List.length_eraseIdx, Array.length_toList, g4], fun j a e ha he' => ?_⟩
            rw [← Array.getElem?_toList, he, List.getElem?_eraseIdx] at he'
            rw [List.getElem?_eraseIdx] at ha
            split at ha <;> rename_i hj
            · rw [if_pos hj] at he'; exact g5 j a e ha (by simpa using he')
            · rw [if_neg hj] at he'; exact g5 (j + 1) a e ha (by simpa using he')
      · cases hs
    · cases hs
  · cases hs
end
end Go.Proofs.Ytgfccaaalkkdlaa.Am
