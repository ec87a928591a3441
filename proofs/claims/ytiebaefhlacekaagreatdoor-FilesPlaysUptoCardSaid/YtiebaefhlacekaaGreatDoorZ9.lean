/- The texts of this seat, one behind another (part 9 of 16): the frame (an abstract machine), the contracts of functions, the laws. -/
import Derived.Test.YtiebaefhlacekaaGreatDoorZ8
import Derived.Test.YtiebaefhlacekaaGreatDoorZ5
section
/- Files: Names told of abstract memory: the names, sorted. -/
set_option linter.unusedSimpArgs false
set_option linter.unusedVariables false
set_option maxHeartbeats 4000000
set_option maxRecDepth 20000
namespace Go.Proofs.YtiebaefhlacekaaGreatDoor.Am
open Go Go.RowKit Go.Proofs.Tryz
theorem encStr_data (s : ByteArray) : Value.string s = encStr s.data.toList := by simp [encStr]
/-- What lies in a world where names were told. -/
theorem HRel.told {w0 w w' : World} {ρ : Ren} {h : Heap} (Hr : HRel prog w0 ρ h w) (hb : Below w.heap.size w w') {g cap n : Nat} {cur : Array Value} {cells : List Value} (hg : w.heap.size ≤ g) (hcur : w'.heap[g]? = some (.cells cur 9 (0, 0)))
    (hcap : cur.size = cap) (hn : n ≤ cap) (hcl : cells.length = n) (hv : ∀ (j : Nat) (v : Value), cells[j]? = some v → ∃ s, v = .string s ∧ cur[j]? = some v) :
    ∃ ρ', RenLe ρ ρ' ∧ HRel prog w0 ρ' (h.new 9 cells) w' ∧ VR ρ' (.slice (some ⟨h.size, 0, none⟩) n 0) (.slice (some ⟨g, 0, none⟩) n cap) := by
  have hgl : g < w'.heap.size := (Array.getElem?_eq_some_iff.1 hcur).1
  let wm : World := { w' with heap := w'.heap.extract 0 g }
  have hms : wm.heap.size = g := by show (w'.heap.extract 0 g).size = g; rw [Array.size_extract]; omega
  have hmg : ∀ k, k < g → wm.heap[k]? = w'.heap[k]? := fun k hk => by
    show (w'.heap.extract 0 g)[k]? = _
    rw [Array.getElem?_extract]
    simp only [Nat.zero_add]
    rw [if_pos (by omega)]
  have B1 : Below w.heap.size w wm := ⟨hb.os, hb.tape, hb.output, by rw [hms]; exact hg, fun k hk => (hmg k (by omega)).trans (hb.block k hk)⟩
  have B2 : Below wm.heap.size wm w' := ⟨rfl, rfl, rfl, by rw [hms]; omega, fun k hk => (hmg k (by rw [hms] at hk; exact hk)).symm⟩
  have H1 := Hr.keep B1
  obtain ⟨i0, hi, hz0, hz1, hz2⟩ := info_parts info_str
  have H2 := H1.pushed (e := 9) (cells := cells) (f := h.size) (Nat.le_refl _) hi B2 (arr := cur) (t := 9) (fr := (0, 0)) (by rw [hms]; exact hcur) ⟨Nat.le_refl _, fun o _ => by omega⟩ (by omega)
    (fun j v hj => by
      obtain ⟨s, rfl, e⟩ := hv j v hj
      exact ⟨rfl, _, e, VR.string s⟩)
  refine ⟨_, H1.le_add _, H2, VR.slice ⟨rfl, hn, .inl rfl, .inl ⟨rfl, _, Ren.add_self, ?_, ?_⟩⟩⟩
  · simp [hms]
  · simp only [hz1]; omega
theorem names_ok {h : Heap} {b r : Nat} {fv : Value} {fl : List Int} {es : List (ByteArray × Value)} (M : FK h b r fv fl es) (hk : (es.map (·.1)).Nodup) (hsz : ∀ e, e ∈ es → e.1.size ≤ 1000) (hn : es.length ≤ 1000) :
    ACalls prog 21 #[pt b] h (fun y h' => ∃ ts : List (List UInt8), ts.Perm (es.map fun e => e.1.data.toList) ∧ Rd prog h' 1 y ts.length ((ts.mergeSort (fun x y => decide (x ≤ y))).map encStr) ∧ (∀ z, blkOf y = some z → h.size ≤ z) ∧ Keeps h h') := by
  refine ACallsX.wf fun H => ?_
  intro w0 ρ w args' Hr A
  have h1 := A.1
  obtain ⟨y, hy, hr⟩ := A.get (i := 0) (x := pt b) rfl
  obtain ⟨a', rfl, hp⟩ := VR.ptr_inv (show VR ρ (.pointer (some ⟨b, 0, none⟩)) y from hr)
  have hargs : args' = #[.pointer (some a')] := by
    refine Array.ext' ?_
    obtain ⟨l⟩ := args'
    match l, h1, hy with
    | [p], _, hy => simp at hy; simp [hy]
  subst hargs
  obtain ⟨_, L, hL, rfl⟩ := hp
  obtain ⟨k, v1, v2, v3, _⟩ := M.var
  have hB := Hr.br v1 hL
  obtain ⟨_, mv, hc, hmv⟩ := hB.reads v3 0 (.map (some r)) (by rw [v2]; rfl)
  rcases hmv.map_inv with ⟨e1, _⟩ | ⟨x, r', e1, rfl, hmr⟩
  · cases e1
  cases e1
  obtain ⟨L2, ms, clock, g1, g2, g3, g4, g5, g6⟩ := smap_lies Hr M.obj hmr
  have hml : ms.toList.length = es.length := by rw [Array.length_toList]; exact g4
  have hkey : ∀ (i : Nat) e m, es[i]? = some e → ms.toList[i]? = some m → m.key = .string e.1 := fun i e m he hm => (g5 i e m he (by rw [← Array.getElem?_toList]; exact hm)).1
  have hkeys : ms.toList.map (·.key) = es.map fun e => Value.string e.1 := by
    refine List.ext_getElem? fun i => ?_
    rw [List.getElem?_map, List.getElem?_map]
    by_cases hi : i < es.length
    · have hi' : i < ms.toList.length := by omega
      rw [List.getElem?_eq_getElem hi, List.getElem?_eq_getElem hi']
      simp only [Option.map_some]
      rw [hkey i _ _ (List.getElem?_eq_getElem hi) (List.getElem?_eq_getElem hi')]
    · rw [List.getElem?_eq_none (by omega), List.getElem?_eq_none (by omega)]; rfl
  have hS : MapKept.Stamped ms clock := ⟨g6.1, g6.2, by
    rw [hkeys]
    have : (es.map fun e => Value.string e.1) = (es.map (·.1)).map Value.string := by rw [List.map_map]; rfl
    rw [this]
    exact hk.map Value.string fun a b hab hne => hab (by cases hne; rfl)⟩
  have hread : ∀ m ∈ ms.toList, ∃ s : ByteArray, m.key = .string s ∧ s.size ≤ maxLen := fun m hm => by
    have : m.key ∈ ms.toList.map (·.key) := List.mem_map.2 ⟨m, hm, rfl⟩
    rw [hkeys] at this
    obtain ⟨e, he, e2⟩ := List.mem_map.1 this
    refine ⟨e.1, e2.symm, ?_⟩
    have := hsz e he
    unfold maxLen; omega
  have hrd : ∀ m ∈ ms.toList, ∀ s : ByteArray, m.key = .string s → s.size ≤ maxLen → WideElems.rd prog 9 anyR m = some (.string s.data.toList, .lit (.bool true)) := fun m _ s e hs => by
    simp [WideElems.rd, anyR, e, keyOf, underlying9, mapKey, hs]
  have F : WideElems.Fit prog 9 anyR ms clock := ⟨by rw [g4]; unfold maxLen; omega, hS, fun m hm => by
    obtain ⟨s, e, hs⟩ := hread m hm
    exact ⟨_, hrd m hm s e hs⟩⟩
  have hown : w.ownsMap prog 9 anyR r' es.length (.map ((ms.toList.map (WideElems.rg prog 9 anyR)).foldr DataW.insert [])) := ⟨ms, clock, g3, F, by omega, rfl⟩
  have hD : Maps.size (DataW.map ((ms.toList.map (WideElems.rg prog 9 anyR)).foldr DataW.insert [] : List (Lit × DataW Unit))) ≤ 1000 := by
    rw [Maps.size_eq, DataW.length_sorted, List.length_map]; omega
  have hstr : (strKeys (DataW.map ((ms.toList.map (WideElems.rg prog 9 anyR)).foldr DataW.insert [] : List (Lit × DataW Unit)))).Perm (es.map fun e => e.1.data.toList) := by
    have p1 := (Go.WideShapes.sorted_perm (ms.toList.map (WideElems.rg prog 9 anyR))).map fun p => strOf p.1
    have p2 : (ms.toList.map (WideElems.rg prog 9 anyR)).map (fun p => strOf p.1) = es.map fun e => e.1.data.toList := by
      rw [List.map_map]
      refine List.ext_getElem? fun i => ?_
      rw [List.getElem?_map, List.getElem?_map]
      by_cases hi : i < es.length
      · have hi' : i < ms.toList.length := by omega
        rw [List.getElem?_eq_getElem hi, List.getElem?_eq_getElem hi']
        simp only [Option.map_some, Function.comp_apply]
        have ek := hkey i _ _ (List.getElem?_eq_getElem hi) (List.getElem?_eq_getElem hi')
        obtain ⟨s, e, hs⟩ := hread _ (List.getElem_mem hi')
        rw [e] at ek
        cases ek
        simp only [WideElems.rg, hrd _ (List.getElem_mem hi') _ e hs, Option.getD_some, strOf]
      · rw [List.getElem?_eq_none (by omega), List.getElem?_eq_none (by omega)]; rfl
    rw [p2] at p1
    exact p1
  refine (names_calls L.blk (L.off + 0) r' es.length _ w hc hown hD).mono fun e w' hq => ?_
  obtain ⟨v, ss, rfl, hperm, hrow, hbel⟩ := hq
  have hp := hperm.trans hstr
  rcases hrow with ⟨hl, ⟨rfl, h0⟩ | ⟨g, cap, cur, rfl, hbase, hb, q1, q2, q3, q4⟩⟩
  · refine ⟨ρ, h, .slice none 0 0, _, RenLe.refl _, Hr.keep hbel, VR.nilslice, .inl ⟨rfl, ss, hp, ?_, fun z e => (by cases e), Keeps.refl H⟩⟩
    obtain rfl : ss = [] := List.eq_nil_of_length_eq_zero h0
    simpa using (Rd.nil0 : Rd prog h 1 (.slice none 0 0) 0 [])
  · simp only [Nat.mul_one] at q3 q4 hl
    obtain ⟨ρ', r1, H2, hv⟩ := Hr.told hbel (cells := (ss.mergeSort (fun x y => decide (x ≤ y))).map encStr) hbase hb q3 q1 hl (fun j v hj => by
      rw [List.getElem?_map] at hj
      obtain ⟨s, hs, rfl⟩ := Option.map_eq_some_iff.1 hj
      refine ⟨⟨s.toArray⟩, rfl, ?_⟩
      have hjl : j < ss.length := by
        have := (List.getElem?_eq_some_iff.1 hs).1
        rw [List.length_mergeSort] at this; exact this
      have : (cur.toList.take ss.length)[j]? = some (encStr s) := by rw [q4, List.getElem?_map, hs]; rfl
      rw [List.getElem?_take, if_pos hjl, Array.getElem?_toList] at this
      exact this)
    refine ⟨ρ', _, _, _, r1, H2, hv, .inl ⟨rfl, ss, hp, ?_, fun z e => by have := blk_at e; omega, Keeps.new H _ _⟩⟩
    exact Rd.new H asz9 (by rw [hl, Nat.mul_one])
end Go.Proofs.YtiebaefhlacekaaGreatDoor.Am
end
