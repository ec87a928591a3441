/- The frame Am, a text beside the others: maps whose keys are strings, told. Nothing of a program stands here. -/
import Derived.Test.YtgfccaaalkkdlaaAmObj
set_option linter.unusedVariables false
set_option linter.unusedSimpArgs false
namespace Go.Proofs.Ytgfccaaalkkdlaa.Am
open Go Go.RowKit
/-- A map whose keys are strings. -/
def smapOf (P : Program) (t : TypeId) : Option TypeId :=
  match P.underlying t with
  | some (.map key e) => (match P.underlying key with | some .string => some e | _ => none)
  | _ => none
/-- Is a key in a map, and where? -/
def findS (x : ByteArray) : List (ByteArray × Value) → Option Nat
  | [] => none
  | e :: es => if e.1 = x then some 0 else (findS x es).map (· + 1)
def getS (es : List (ByteArray × Value)) (x : ByteArray) : Option Value := (findS x es).bind fun i => es[i]?.map (·.2)
def putS (es : List (ByteArray × Value)) (x : ByteArray) (v : Value) : List (ByteArray × Value) := match findS x es with | some i => es.set i (x, v) | none => es ++ [(x, v)]
def delS (es : List (ByteArray × Value)) (x : ByteArray) : List (ByteArray × Value) := match findS x es with | some i => es.eraseIdx i | none => es
def amakeMapS (P : Program) (h : Heap) (t : TypeId) : Option (Value × Heap) :=
  match smapOf P t with
  | some _ => some (.map (some h.size), h.opush (.smap []))
  | none => none
def smapAt (h : Heap) (r : Nat) : Option (List (ByteArray × Value)) := match h.obj r with | some (.smap es) => some es | _ => none
def alookupS (P : Program) (h : Heap) (t : TypeId) (m key : Value) (ok : Bool) : Option (Value × Heap) :=
  match smapOf P t, m, key with
  | some e, .map (some r), .string x =>
    (match smapAt h r, azero P e with
      | some es, some z => (match getS es x with
        | some v => some (if ok = true then .tuple #[v, .bool true] else v, h)
        | none => some (if ok = true then .tuple #[z, .bool false] else z, h))
      | _, _ => none)
  | _, _, _ => none
def amapUpdateS (P : Program) (h : Heap) (t : TypeId) (m key v : Value) : Option (Value × Heap) :=
  match smapOf P t, m, key with
  | some _, .map (some r), .string x => (match smapAt h r with | some es => some (undef, h.oput r (.smap (putS es x v))) | none => none)
  | _, _, _ => none
def adeleteS (P : Program) (h : Heap) (t : TypeId) (m key : Value) : Option (Value × Heap) :=
  match smapOf P t, m, key with
  | some _, .map (some r), .string x => (match smapAt h r with | some es => some (undef, h.oput r (.smap (delS es x))) | none => none)
  | _, _, _ => none
section
variable {P : Program} {w0 w : World} {ρ : Ren} {h : Heap}
theorem ba_beq (x y : ByteArray) : (x == y) = decide (x = y) := by
  by_cases h : x = y
  · rw [decide_eq_true h]; exact (MapKept.bytes_beq x y).2 h
  · rw [decide_eq_false h]
    cases e : x == y with
    | false => rfl
    | true => exact absurd ((MapKept.bytes_beq x y).1 e) h
theorem findNowS_rel {x : ByteArray} : ∀ {es : List (ByteArray × Value)} {ms : List MapEntry} {i : Nat}, ms.length = es.length → (∀ (j : Nat) a e, es[j]? = some a → ms[j]? = some e → e.key = .string a.1) →
    Instr.findNow .string (.string x) ms i = some ((findS x es).bind fun j => ms[j]?.map fun e => (i + j, e.val))
  | [], [], i, _, _ => rfl
  | a :: es, [], i, h, _ => by simp at h
  | [], e :: ms, i, h, _ => by simp at h
  | a :: es, e :: ms, i, hl, H => by
    have h0 := H 0 a e rfl rfl
    have ih := findNowS_rel (x := x) (es := es) (ms := ms) (i := i + 1) (by simpa using hl) (fun j b f hb hf => H (j + 1) b f (by simpa using hb) (by simpa using hf))
    simp only [Instr.findNow, h0, Instr.sameNow, if_true]
    by_cases e1 : a.1 = x
    · subst e1; simp [findS, ba_beq]
    · have : (x == a.1) = false := by rw [ba_beq]; exact decide_eq_false fun h => e1 h.symm
      simp only [this, ih, findS, if_neg e1]
      cases findS x es with
      | none => rfl
      | some j => simp only [Option.map_some, Option.bind_some, List.getElem?_cons_succ]; rw [show i + 1 + j = i + (j + 1) by omega]
theorem findS_lt {x : ByteArray} : ∀ {es : List (ByteArray × Value)} {i : Nat}, findS x es = some i → ∃ v, es[i]? = some (x, v)
  | [], i, h => by simp [findS] at h
  | e :: es, i, h => by
    unfold findS at h
    split at h
    · rename_i e1; cases h; exact ⟨e.2, by simp [← e1]⟩
    · cases hf : findS x es with
      | none => rw [hf] at h; cases h
      | some j =>
        rw [hf] at h; cases h
        obtain ⟨v, hv⟩ := findS_lt hf
        exact ⟨v, by simpa using hv⟩
theorem smap_kind {t : TypeId} {e : TypeId} (h : smapOf P t = some e) : ∃ key, P.underlying t = some (.map key e) ∧ P.underlying key = some .string := by
  unfold smapOf at h
  split at h
  · rename_i key e' ht
    split at h
    · rename_i hk; cases h; exact ⟨key, ht, hk⟩
    · cases h
  · cases h
theorem smapAt_some {r : Nat} {es : List (ByteArray × Value)} (h1 : smapAt h r = some es) : h.obj r = some (.smap es) := by
  unfold smapAt at h1
  split at h1
  · rename_i es' ho
    cases h1; exact ho
  · cases h1
/-- Where a map that is told lies. -/
theorem smap_lies (H : HRel P w0 ρ h w) {r r' : Nat} {es : List (ByteArray × Value)} (ho : h.obj r = some (.smap es)) (hr : MR ρ r r') :
    ∃ L ms clock, ρ r = some L ∧ L.blk = r' ∧ w.heap[r']? = some (.map ms clock) ∧ ms.size = es.length ∧ (∀ (i : Nat) x e, es[i]? = some x → ms[i]? = some e → e.key = .string x.1 ∧ VR ρ x.2 e.val) ∧ Born ms.toList clock := by
  obtain ⟨hlt, L, o, g1, g2, g3, g4, g5⟩ := H.mo.objs r _ ho
  obtain ⟨L', q1, q2⟩ := hr
  rw [g1] at q1; cases q1
  subst q2
  cases o <;> simp only [ObjR] at g5
  exact ⟨L, _, _, g1, rfl, g4, g5.1, g5.2⟩
theorem run_checkKeyS' {key : TypeId} {x : ByteArray} {b : Bool} (hk : P.underlying key = some .string) (n : Nat) : (Instr.checkKey b (n + 1) key (.string x)).run P w = .ok () w := by
  simp [Instr.checkKey, run_underlying hk]
theorem run_checkKeyS {key : TypeId} {x : ByteArray} {b : Bool} (hk : P.underlying key = some .string) : (Instr.checkKey b 10000 key (.string x)).run P w = .ok () w := run_checkKeyS' hk 9999
theorem run_findKeyS {key : TypeId} {x : ByteArray} {es : List (ByteArray × Value)} {ms : Array MapEntry} (hk : P.underlying key = some .string) (hl : ms.size = es.length) (H : ∀ (j : Nat) a e, es[j]? = some a → ms[j]? = some e → e.key = .string a.1) :
    (Instr.findKey key (.string x) ms.toList).run P w = .ok ((findS x es).bind fun j => ms[j]?.map fun e => (j, e.val)) w := by
  have := findNowS_rel (x := x) (es := es) (ms := ms.toList) (i := 0) (by simpa using hl) (fun j a e ha he => H j a e ha (by simpa using he))
  simp only [Array.getElem?_toList, Nat.zero_add] at this
  simp [Instr.findKey, run_underlying hk, this]
theorem lookupS_rel (H : HRel P w0 ρ h w) {t : TypeId} {m m' key key' : Value} {ok : Bool} (hm : VR ρ m m') (hk : VR ρ key key') {v : Value} {h' : Heap} (hs : alookupS P h t m key ok = some (v, h')) :
    h' = h ∧ ∃ v', (Instr.lookup t m' key' ok).run P w = .ok v' w ∧ VR ρ v v' := by
  unfold alookupS at hs
  split at hs
  · rename_i e r x hmo
    · skip
      obtain ⟨kt, ht, hkt⟩ := smap_kind hmo
      split at hs
      · rename_i es z hes hz
        obtain ⟨z1, z2, _⟩ := azero_rel (w := w) (ρ := ρ) hz
        have z2 := vr_of_cells z2
        rcases hm.map_inv with ⟨e1, _⟩ | ⟨y, y', e1, rfl, hr⟩
        · cases e1
        cases e1
        rw [hk.string_inv]
        obtain ⟨L, ms, clock, g1, g2, g3, g4, g5, g6⟩ := smap_lies H (smapAt_some hes) hr
        have hf := run_findKeyS (w := w) (x := x) hkt g4 fun j a e ha he => (g5 j a e ha he).1
        have hg : (getObj y').run P w = .ok (.map ms clock) w := MapKept.run_getObj_map g3
        unfold getS at hs
        cases hfe : findS x es with
        | none =>
          rw [hfe] at hs hf
          simp only [Option.bind_none] at hs hf
          cases hs
          refine ⟨rfl, if ok = true then .tuple #[z, .bool false] else z, ?_, ?_⟩
          · simp [Instr.lookup, run_underlying ht, hg, run_checkKeyS hkt, hf, z1]
          · cases ok
            · exact z2
            · exact VR.tuple (AR.push (AR.push AR.nil z2) (VR.bool _))
        | some i =>
          obtain ⟨u, hu⟩ := findS_lt hfe
          have hi : i < ms.size := by have := (List.getElem?_eq_some_iff.1 hu).1; omega
          have hme : ms[i]? = some ms[i] := Array.getElem?_eq_getElem hi
          obtain ⟨q1, q2⟩ := g5 i _ _ hu hme
          rw [hfe] at hs hf
          simp only [Option.bind_some, hu, Option.map_some, hme] at hs hf
          cases hs
          refine ⟨rfl, if ok = true then .tuple #[ms[i].val, .bool true] else ms[i].val, ?_, ?_⟩
          · simp [Instr.lookup, run_underlying ht, hg, run_checkKeyS hkt, hf]
          · cases ok
            · exact q2
            · exact VR.tuple (AR.push (AR.push AR.nil q2) (VR.bool _))
      · cases hs
  · cases hs
theorem mapUpdateS_rel (H : HRel P w0 ρ h w) {t : TypeId} {m m' key key' v v' : Value} (hm : VR ρ m m') (hk : VR ρ key key') (hv : VR ρ v v') {u : Value} {h' : Heap} (hs : amapUpdateS P h t m key v = some (u, h')) :
    u = undef ∧ ∃ w', (Instr.mapUpdate t m' key' v').run P w = .ok () w' ∧ HRel P w0 ρ h' w' := by
  unfold amapUpdateS at hs
  split at hs
  · rename_i e r x hmo
    · skip
      obtain ⟨kt, ht, hkt⟩ := smap_kind hmo
      split at hs
      · rename_i es hes
        cases hs
        refine ⟨rfl, ?_⟩
        rcases hm.map_inv with ⟨e1, _⟩ | ⟨y, y', e1, rfl, hr⟩
        · cases e1
        cases e1
        rw [hk.string_inv]
        obtain ⟨L, ms, clock, g1, g2, g3, g4, g5, g6⟩ := smap_lies H (smapAt_some hes) hr
        have hf := run_findKeyS (w := w) (x := x) hkt g4 fun j a e ha he => (g5 j a e ha he).1
        have hg : (getObj y').run P w = .ok (.map ms clock) w := MapKept.run_getObj_map g3
        subst g2
        unfold putS
        cases hfe : findS x es with
        | none =>
          rw [hfe] at hf
          simp only [Option.bind_none] at hf
          refine ⟨_, by simp [Instr.mapUpdate, run_underlying ht, hg, run_checkKeyS hkt, hf, run_setObj g3]; rfl, H.oput (smapAt_some hes) g1 ?_⟩
          refine ⟨by simp [g4], fun i a e ha he => ?_, ?_⟩
          rotate_left
          · obtain ⟨b1, b2⟩ := g6
            refine ⟨fun e he => ?_, ?_⟩
            · simp only [Array.toList_push, List.mem_append, List.mem_singleton] at he
              rcases he with he | rfl
              · have := b1 e he; omega
              · exact Nat.lt_succ_self _
            · simp only [Array.toList_push, List.map_append, List.map_cons, List.map_nil]
              rw [List.nodup_append]
              refine ⟨b2, by simp, fun a ha b hb => ?_⟩
              simp only [List.mem_singleton] at hb
              subst hb
              obtain ⟨e, he, rfl⟩ := List.mem_map.1 ha
              have := b1 e he; omega
          by_cases hi : i < es.length
          · rw [List.getElem?_append_left hi] at ha
            rw [Array.getElem?_push, if_neg (by omega)] at he
            exact g5 i a e ha he
          · rw [List.getElem?_append_right (by omega)] at ha
            have hil : i - es.length = 0 := by
              have := (List.getElem?_eq_some_iff.1 ha).1; simp at this; omega
            rw [hil] at ha
            simp only [List.getElem?_cons_zero, Option.some.injEq] at ha
            subst ha
            rw [Array.getElem?_push, if_pos (by omega)] at he
            cases he
            exact ⟨rfl, hv⟩
        | some i =>
          obtain ⟨u, hu⟩ := findS_lt hfe
          have hi : i < ms.size := by have := (List.getElem?_eq_some_iff.1 hu).1; omega
          have hme : ms[i]? = some ms[i] := Array.getElem?_eq_getElem hi
          obtain ⟨q1, q2⟩ := g5 i _ _ hu hme
          rw [hfe] at hf
          simp only [Option.bind_some, hme, Option.map_some] at hf
          have hstay : (Instr.keyThatStays (.string x) (.string x)).run P w = .ok (.string x) w := by simp [Instr.keyThatStays, Instr.sameBits, ba_beq]
          refine ⟨w.putObj L.blk (.map (ms.modify i fun e => { e with key := .string x, val := v' }) clock), ?_, H.oput (smapAt_some hes) g1 ?_⟩
          · simp [Instr.mapUpdate, run_underlying ht, hg, run_checkKeyS hkt, hf, run_setObj g3, hme, q1, hstay]
          · refine ⟨by simp [g4], fun j a e ha he => ?_, ?_⟩
            rotate_left
            · have hb : ((ms.modify i fun e => { e with key := .string x, val := v' }).toList.map (·.born)) = ms.toList.map (·.born) := by
                refine List.ext_getElem? fun j => ?_
                simp only [List.getElem?_map, Array.getElem?_toList, Array.getElem?_modify]
                by_cases hij : i = j
                · subst hij; rw [if_pos rfl, hme]; rfl
                · rw [if_neg hij]
              refine ⟨fun e he => ?_, by rw [hb]; exact g6.2⟩
              have : e.born ∈ ms.toList.map (·.born) := by rw [← hb]; exact List.mem_map.2 ⟨e, he, rfl⟩
              obtain ⟨e', he', h2⟩ := List.mem_map.1 this
              have := g6.1 e' he'; omega
            rw [Array.getElem?_modify] at he
            rw [List.getElem?_set] at ha
            by_cases hij : i = j
            · subst hij
              rw [if_pos rfl, if_pos (by omega)] at ha
              rw [if_pos rfl, hme] at he
              cases ha; cases he
              exact ⟨rfl, hv⟩
            · rw [if_neg hij] at ha he
              exact g5 j a e ha he
      · cases hs
  · cases hs
theorem makeMapS_rel (H : HRel P w0 ρ h w) {t : TypeId} {v : Value} {h' : Heap} (hs : amakeMapS P h t = some (v, h')) :
    ∃ v' w' ρ', (Instr.makeMap t none).run P w = .ok v' w' ∧ RenLe ρ ρ' ∧ HRel P w0 ρ' h' w' ∧ VR ρ' v v' := by
  unfold amakeMapS at hs
  split at hs
  · rename_i e hmo
    cases hs
    refine ⟨.map (some w.heap.size), w.alloc (.map #[] 0), _, by simp only [Instr.makeMap, Sem.run_bind, run_newObj_alloc, Result.andThen, Sem.run_pure], H.le_add _, H.opush (o := .map #[] 0) ⟨rfl, fun i x e hx => (by simp at hx), fun e he => (by simp at he), List.nodup_nil⟩, VR.map ⟨_, Ren.add_self, rfl⟩⟩
  · cases hs
theorem deleteS_rel (H : HRel P w0 ρ h w) {t : TypeId} {m m' key key' : Value} {ts : Array TypeId} {ty : TypeId} (ht0 : ts[0]? = some t) (hm : VR ρ m m') (hk : VR ρ key key') {u : Value} {h' : Heap} (hs : adeleteS P h t m key = some (u, h')) :
    u = undef ∧ ∃ w', (Builtin.delete_ ts ty #[m', key']).run P w = .ok (.tuple #[]) w' ∧ HRel P w0 ρ h' w' := by
  unfold adeleteS at hs
  split at hs
  · rename_i e r x hmo
    · skip
      obtain ⟨kt, ht, hkt⟩ := smap_kind hmo
      split at hs
      · rename_i es hes
        cases hs
        refine ⟨rfl, ?_⟩
        rcases hm.map_inv with ⟨e1, _⟩ | ⟨y, y', e1, rfl, hr⟩
        · cases e1
        cases e1
        rw [hk.string_inv]
        obtain ⟨L, ms, clock, g1, g2, g3, g4, g5, g6⟩ := smap_lies H (smapAt_some hes) hr
        have hf := run_findKeyS (w := w) (x := x) hkt g4 fun j a e ha he => (g5 j a e ha he).1
        have hg : (getObj y').run P w = .ok (.map ms clock) w := MapKept.run_getObj_map g3
        subst g2
        unfold delS
        cases hfe : findS x es with
        | none =>
          rw [hfe] at hf
          simp only [Option.bind_none] at hf
          exact ⟨_, by simp [Builtin.delete_, ht0, run_underlying ht, hg, run_checkKeyS hkt, hf, run_setObj g3]; rfl, H.oput (smapAt_some hes) g1 (by exact ⟨g4, g5, g6⟩)⟩
        | some i =>
          obtain ⟨u, hu⟩ := findS_lt hfe
          have hi : i < ms.size := by have := (List.getElem?_eq_some_iff.1 hu).1; omega
          have hme : ms[i]? = some ms[i] := Array.getElem?_eq_getElem hi
          rw [hfe] at hf
          simp only [Option.bind_some, hme, Option.map_some] at hf
          refine ⟨w.putObj L.blk (.map (ms.eraseIdxIfInBounds i) clock), ?_, H.oput (smapAt_some hes) g1 ?_⟩
          · simp [Builtin.delete_, ht0, run_underlying ht, hg, run_checkKeyS hkt, hf, run_setObj g3]
          · have he : (ms.eraseIdxIfInBounds i).toList = ms.toList.eraseIdx i := by simp
            refine ⟨by rw [← Array.length_toList, he, List.length_eraseIdx, List.length_eraseIdx, Array.length_toList, g4], fun j a e ha he' => ?_, ?_⟩
            rotate_left
            · rw [he]
              have hsub := List.eraseIdx_sublist ms.toList i
              exact ⟨fun e h => g6.1 e (hsub.subset h), g6.2.sublist (hsub.map _)⟩
            rw [← Array.getElem?_toList, he, List.getElem?_eraseIdx] at he'
            rw [List.getElem?_eraseIdx] at ha
            split at ha <;> rename_i hj
            · rw [if_pos hj] at he'; exact g5 j a e ha (by simpa using he')
            · rw [if_neg hj] at he'; exact g5 (j + 1) a e ha (by simpa using he')
      · cases hs
  · cases hs
end
/-- Maps of either kind of keys. -/
def amakeMapM (P : Program) (h : Heap) (t : TypeId) : Option (Value × Heap) := match smapOf P t with | some _ => amakeMapS P h t | none => amakeMap P h t
def alookupM (P : Program) (h : Heap) (t : TypeId) (m key : Value) (ok : Bool) : Option (Value × Heap) := match smapOf P t with | some _ => alookupS P h t m key ok | none => alookup P h t m key ok
def amapUpdateM (P : Program) (h : Heap) (t : TypeId) (m key v : Value) : Option (Value × Heap) := match smapOf P t with | some _ => amapUpdateS P h t m key v | none => amapUpdate P h t m key v
def adeleteM (P : Program) (h : Heap) (t : TypeId) (m key : Value) : Option (Value × Heap) := match smapOf P t with | some _ => adeleteS P h t m key | none => adelete P h t m key
/-- How many a map has. -/
def alenMap (P : Program) (h : Heap) (t : TypeId) (m : Value) : Option (Value × Heap) :=
  match P.underlying t, m with
  | some (.map _ _), .map (some r) => (match h.obj r with
    | some (.map _ es) => some (.int .i64 es.length, h)
    | some (.smap es) => some (.int .i64 es.length, h)
    | _ => none)
  | _, _ => none
section
variable {P : Program} {w0 w : World} {ρ : Ren} {h : Heap}
theorem makeMapM_rel (H : HRel P w0 ρ h w) {t : TypeId} {v : Value} {h' : Heap} (hs : amakeMapM P h t = some (v, h')) :
    ∃ v' w' ρ', (Instr.makeMap t none).run P w = .ok v' w' ∧ RenLe ρ ρ' ∧ HRel P w0 ρ' h' w' ∧ VR ρ' v v' := by
  unfold amakeMapM at hs
  split at hs
  · exact makeMapS_rel H hs
  · exact makeMap_rel H hs
theorem lookupM_rel (H : HRel P w0 ρ h w) {t : TypeId} {m m' key key' : Value} {ok : Bool} (hm : VR ρ m m') (hk : VR ρ key key') {v : Value} {h' : Heap} (hs : alookupM P h t m key ok = some (v, h')) :
    h' = h ∧ ∃ v', (Instr.lookup t m' key' ok).run P w = .ok v' w ∧ VR ρ v v' := by
  unfold alookupM at hs
  split at hs
  · exact lookupS_rel H hm hk hs
  · exact lookup_rel H hm hk hs
theorem mapUpdateM_rel (H : HRel P w0 ρ h w) {t : TypeId} {m m' key key' v v' : Value} (hm : VR ρ m m') (hk : VR ρ key key') (hv : VR ρ v v') {u : Value} {h' : Heap} (hs : amapUpdateM P h t m key v = some (u, h')) :
    u = undef ∧ ∃ w', (Instr.mapUpdate t m' key' v').run P w = .ok () w' ∧ HRel P w0 ρ h' w' := by
  unfold amapUpdateM at hs
  split at hs
  · exact mapUpdateS_rel H hm hk hv hs
  · exact mapUpdate_rel H hm hk hv hs
theorem deleteM_rel (H : HRel P w0 ρ h w) {t : TypeId} {m m' key key' : Value} {ts : Array TypeId} {ty : TypeId} (ht0 : ts[0]? = some t) (hm : VR ρ m m') (hk : VR ρ key key') {u : Value} {h' : Heap} (hs : adeleteM P h t m key = some (u, h')) :
    u = undef ∧ ∃ w', (Builtin.delete_ ts ty #[m', key']).run P w = .ok (.tuple #[]) w' ∧ HRel P w0 ρ h' w' := by
  unfold adeleteM at hs
  split at hs
  · exact deleteS_rel H ht0 hm hk hs
  · exact delete_rel H ht0 hm hk hs
theorem lenMap_rel (H : HRel P w0 ρ h w) {t : TypeId} {m m' : Value} {ts : Array TypeId} {ty : TypeId} (ht0 : ts[0]? = some t) (hm : VR ρ m m') {v : Value} {h' : Heap} (hs : alenMap P h t m = some (v, h')) :
    h' = h ∧ (Builtin.len_ ts ty #[m']).run P w = .ok v w ∧ VR ρ v v := by
  unfold alenMap at hs
  split at hs
  · rename_i key e r ht
    rcases hm.map_inv with ⟨e1, _⟩ | ⟨y, y', e1, rfl, hr⟩
    · cases e1
    cases e1
    split at hs
    · rename_i k es ho
      cases hs
      obtain ⟨L, ms, clock, g1, g2, g3, g4, g5⟩ := map_lies H ho hr
      have hg : (getObj y').run P w = .ok (.map ms clock) w := MapKept.run_getObj_map g3
      exact ⟨rfl, by simp [Builtin.len_, ht0, run_underlying ht, hg, g4, goInt], VR.int _ _⟩
    · rename_i es ho
      cases hs
      obtain ⟨L, ms, clock, g1, g2, g3, g4, g5, g6⟩ := smap_lies H ho hr
      have hg : (getObj y').run P w = .ok (.map ms clock) w := MapKept.run_getObj_map g3
      exact ⟨rfl, by simp [Builtin.len_, ht0, run_underlying ht, hg, g4, goInt], VR.int _ _⟩
    · cases hs
  · cases hs
end
end Go.Proofs.Ytgfccaaalkkdlaa.Am
