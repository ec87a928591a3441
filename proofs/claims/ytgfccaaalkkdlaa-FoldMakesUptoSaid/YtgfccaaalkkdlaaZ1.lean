/- The texts of this seat, one behind another (part 1 of 10): the frame (an abstract machine), the contracts of functions, the laws. -/
import Derived.Test.YtgfccaaalkkdlaaAmF
import Derived.Test.YtgfccaaalkkdlaaAmEff
import Derived.WalkKit
import Derived.Lib.Walk
import Derived.Lib.SliceRun
import Derived.Lib.AppendZerosOnto
import Derived.Lib.Overlaps
import Derived.Deep.AppendSrc
import Derived.Deep.RegionLaw
import Derived.Shelf.RegionOpenPlain
import Derived.Shelf.Spec.SlicesInsert
import Derived.Laws.Externs
import Derived.Laws.NewBlocks
section
/- slices.Delete and slices.Insert at folds, in any world: what they leave in memory. -/
set_option linter.unusedSimpArgs false
set_option linter.unusedVariables false
namespace Go.Proofs.Ytgfccaaalkkdlaa.Am
open Go Go.RowKit Go.Lib Go.Proofs.Try
/-- Cells written into one block; else all is as it was. -/
def InW (w w1 : World) (B o : Nat) (vs : List Value) : Prop :=
  w1.os = w.os ∧ w1.tape = w.tape ∧ w1.output = w.output ∧ w1.heap.size = w.heap.size ∧ (∀ x, x ≠ B → w1.heap[x]? = w.heap[x]?) ∧
    ∀ arr t fr, w.heap[B]? = some (.cells arr t fr) → ∃ arr', w1.heap[B]? = some (.cells arr' t fr) ∧ arr'.size = arr.size ∧ ∀ j, arr'[j]? = if o ≤ j ∧ j < o + vs.length then vs[j - o]? else arr[j]?
theorem InW.drew {w w1 : World} {B o : Nat} {vs : List Value} (H : InW w.drew w1 B o vs) : InW w w1 B o vs := H
theorem InW.draws {w w1 : World} {B o : Nat} {vs : List Value} (H : InW w w1 B o vs) : InW w w1.drew B o vs := H
theorem inW_set {B : Nat} : ∀ (vs : List Value) (o : Nat) (w : World), (∀ arr t fr, w.heap[B]? = some (.cells arr t fr) → o + vs.length ≤ arr.size) → InW w (w.setCells B o vs) B o vs
  | [], o, w, _ => ⟨rfl, rfl, rfl, rfl, fun _ _ => rfl, fun arr t fr h => ⟨arr, h, rfl, fun j => by rw [if_neg (by simp only [List.length_nil]; omega)]⟩⟩
  | v :: vs, o, w, hr => by
    have hget : ∀ arr t fr, w.heap[B]? = some (.cells arr t fr) → (w.setCell ⟨B, o, none⟩ v).heap[B]? = some (.cells (arr.setIfInBounds o v) t fr) := fun arr t fr hg => by
      simp only [World.setCell, Array.getElem?_modify, if_true, hg, Option.map_some, Option.isSome_none, Bool.false_eq_true, if_false]
    have hback : ∀ arr t fr, (w.setCell ⟨B, o, none⟩ v).heap[B]? = some (.cells arr t fr) → ∃ arr0, w.heap[B]? = some (.cells arr0 t fr) ∧ arr = arr0.setIfInBounds o v := fun arr t fr hg => by
      simp only [World.setCell, Array.getElem?_modify, if_true] at hg
      cases hb : w.heap[B]? with
      | none => rw [hb] at hg; cases hg
      | some ob =>
        rw [hb] at hg
        cases ob <;> simp only [Option.map_some, Option.isSome_none, Bool.false_eq_true, if_false, Option.some.injEq] at hg <;> cases hg
        exact ⟨_, rfl, rfl⟩
    obtain ⟨r2, r3, r4, r5, r6, r7⟩ := inW_set vs (o + 1) (w.setCell ⟨B, o, none⟩ v) (fun arr t fr hg => by
      obtain ⟨arr0, h0, rfl⟩ := hback arr t fr hg
      have := hr arr0 t fr h0
      simp only [List.length_cons] at this
      simp only [Array.size_setIfInBounds]; omega)
    refine ⟨r2, r3, r4, by rw [World.setCells, r5]; simp [World.setCell], fun x hx => ?_, fun arr t fr hg => ?_⟩
    · rw [World.setCells, r6 x hx]
      simp only [World.setCell, Array.getElem?_modify]
      rw [if_neg (fun e => hx e.symm)]
    · obtain ⟨arr', q1, q2, q3⟩ := r7 _ t fr (hget arr t fr hg)
      have hlen := hr arr t fr hg
      simp only [List.length_cons] at hlen
      refine ⟨arr', q1, by rw [q2]; simp, fun j => ?_⟩
      rw [q3]
      by_cases e : j = o
      · subst e
        rw [if_neg (by omega), if_pos (by simp only [List.length_cons]; omega), Nat.sub_self, Array.getElem?_setIfInBounds, if_pos rfl, if_pos (by omega)]
        rfl
      · by_cases hj : o + 1 ≤ j ∧ j < o + 1 + vs.length
        · rw [if_pos hj, if_pos (by simp only [List.length_cons]; omega)]
          obtain ⟨m, hm⟩ : ∃ m, j = o + 1 + m := ⟨j - (o + 1), by omega⟩
          subst hm
          rw [show o + 1 + m - (o + 1) = m from by omega, show o + 1 + m - o = m + 1 from by omega]
          rfl
        · rw [if_neg hj, if_neg (by simp only [List.length_cons]; omega)]
          rw [Array.getElem?_setIfInBounds, if_neg (fun e' => e e'.symm)]
/-- First further on, then up to it. -/
theorem InW.two {w w1 w2 : World} {B o : Nat} {us vs : List Value} (H1 : InW w w1 B (o + us.length) vs) (H2 : InW w1 w2 B o us) : InW w w2 B o (us ++ vs) := by
  obtain ⟨a1, a2, a3, a4, a5, a6⟩ := H1
  obtain ⟨b1, b2, b3, b4, b5, b6⟩ := H2
  refine ⟨b1.trans a1, b2.trans a2, b3.trans a3, b4.trans a4, fun x hx => (b5 x hx).trans (a5 x hx), fun arr t fr hg => ?_⟩
  obtain ⟨arr1, g1, s1, e1⟩ := a6 arr t fr hg
  obtain ⟨arr2, g2, s2, e2⟩ := b6 arr1 t fr g1
  refine ⟨arr2, g2, s2.trans s1, fun j => ?_⟩
  rw [e2, e1, List.length_append]
  by_cases h1 : o ≤ j ∧ j < o + us.length
  · rw [if_pos h1, if_pos (by omega), List.getElem?_append_left (by omega)]
  · rw [if_neg h1]
    by_cases h2 : o + us.length ≤ j ∧ j < o + us.length + vs.length
    · rw [if_pos h2, if_pos (by omega), List.getElem?_append_right (by omega)]
      congr 1; omega
    · rw [if_neg h2, if_neg (by omega)]
/-- First up to there, then further on. -/
theorem InW.then {w w1 w2 : World} {B o : Nat} {us vs : List Value} (H1 : InW w w1 B o us) (H2 : InW w1 w2 B (o + us.length) vs) : InW w w2 B o (us ++ vs) := by
  obtain ⟨a1, a2, a3, a4, a5, a6⟩ := H1
  obtain ⟨b1, b2, b3, b4, b5, b6⟩ := H2
  refine ⟨b1.trans a1, b2.trans a2, b3.trans a3, b4.trans a4, fun x hx => (b5 x hx).trans (a5 x hx), fun arr t fr hg => ?_⟩
  obtain ⟨arr1, g1, s1, e1⟩ := a6 arr t fr hg
  obtain ⟨arr2, g2, s2, e2⟩ := b6 arr1 t fr g1
  refine ⟨arr2, g2, s2.trans s1, fun j => ?_⟩
  rw [e2, e1, List.length_append]
  by_cases h2 : o + us.length ≤ j ∧ j < o + us.length + vs.length
  · rw [if_pos h2, if_pos (by omega), List.getElem?_append_right (by omega)]
    congr 1; omega
  · rw [if_neg h2]
    by_cases h1 : o ≤ j ∧ j < o + us.length
    · rw [if_pos h1, if_pos (by omega), List.getElem?_append_left (by omega)]
    · rw [if_neg h1, if_neg (by omega)]
theorem run_copyK {P : Program} (w : World) (dT sT ty elem : TypeId) (b o dLen dCap : Nat) (a : Addr) (sLen sCap K : Nat) (cs : List Value) (i : TypeInfo)
    (hu : P.underlying dT = some (.slice elem)) (hi : P.info? elem = some i) (hK : i.size = K) (hn : cs.length = Nat.min sLen dLen * K)
    (hsrc : ∀ j v, cs[j]? = some v → w.cell? (a.add j) = some v) (hc : ∀ j, j < cs.length → (w.cell? ⟨b, o + j, none⟩).isSome = true) (hf : ∀ j, j < cs.length → w.frozen? ⟨b, o + j, none⟩ = false) (h1 : ∀ v ∈ cs, v.oneCell' = true) :
    (Builtin.copy_ #[dT, sT] ty #[.slice (some ⟨b, o, none⟩) dLen dCap, .slice (some a) sLen sCap]).run P w = .ok (goInt (Nat.min sLen dLen)) (w.setCells b o cs) := by
  have hl := run_loadCells_list (P := P) w a cs hsrc
  have hst := run_storeCells_cells (P := P) b o cs 0 w (by simpa using hc) (by simpa using hf) h1
  simp [Builtin.copy_, run_underlying hu, Builtin.lenOf, Builtin.firstCells, sizeOf, typeInfo, hi, hK, ← hn, hl, hst]
theorem run_clearK {P : Program} (w : World) (t e ty : TypeId) (z : Value) (K : Nat) (ht : P.underlying t = some (.slice e)) (hv : ∀ w, (zeroValue e).run P w = .ok z w) (hz : z.cells.size = K) (h1 : ∀ v, v ∈ z.cells.toList → v.oneCell' = true) (b o c : Nat)
    (hc : ∀ j, j < K → (w.cell? ⟨b, o + j, none⟩).isSome = true) (hf : ∀ j, j < K → w.frozen? ⟨b, o + j, none⟩ = false) :
    (Builtin.clear_ #[t] ty #[.slice (some ⟨b, o, none⟩) 1 c]).run P w = .ok (.tuple #[]) (w.setCells b o z.cells.toList) := by
  have hzc : (Builtin.zeroCells z.cells 1).toList = z.cells.toList := by
    apply List.ext_getElem?
    intro i
    simp only [Builtin.zeroCells]
    by_cases h : i < z.cells.size
    · simp [h, Nat.mod_eq_of_lt h]
    · simp [h]
  have hst := run_storeCells_cells (P := P) b o z.cells.toList 0 w (by simpa [hz] using hc) (by simpa [hz] using hf) h1
  simp [Builtin.clear_, run_underlying ht, hv, hzc, hst]
end Go.Proofs.Ytgfccaaalkkdlaa.Am
end
section
/- slices.Delete at folds, one of them, in any world. -/
set_option linter.unusedSimpArgs false
set_option linter.unusedVariables false
namespace Go.Proofs.Ytgfccaaalkkdlaa.Am
open Go Go.RowKit Go.Lib Go.Proofs.Try
def zF : List Value := [.int .i64 0, .int .i64 0, .bool false]
theorem info_fold : (prog.info? 36).map (fun i => (i.zero, i.size, i.bytes)) = some (some (.agg #[.int .i64 0, .int .i64 0, .bool false]), 3, 24) := by kernel_rfl
theorem zero_fold (w : World) : (zeroValue 36).run prog w = .ok (.agg #[.int .i64 0, .int .i64 0, .bool false]) w := by
  obtain ⟨i0, hi, h0, h1, h2⟩ := info_parts info_fold
  simp [zeroValue, typeInfo, hi, h0]
theorem size_fold (w : World) : (Go.sizeOf 36).run prog w = .ok 3 w := by
  obtain ⟨i0, hi, h0, h1, h2⟩ := info_parts info_fold
  simp [sizeOf, typeInfo, hi, h1]
set_option maxHeartbeats 4000000 in
set_option maxRecDepth 100000 in
theorem delete_calls (B OFF n c i : Nat) (cs : List Value) (w : World) (hi : i < n) (hnc : n ≤ c) (hcl : cs.length = n * 3)
    (hcs : ∀ j v, cs[j]? = some v → w.cell? ⟨B, OFF + j, none⟩ = some v) (hfz : ∀ j, j < n * 3 → w.frozen? ⟨B, OFF + j, none⟩ = false) (h1 : ∀ v ∈ cs, v.oneCell' = true)
    (hroom : ∀ arr t fr, w.heap[B]? = some (.cells arr t fr) → OFF + n * 3 ≤ arr.size) :
    Calls prog 36 #[.slice (some ⟨B, OFF, none⟩) n c, .int .i64 i, .int .i64 (i + 1)] w fun e w' =>
      e = .returned (.slice (some ⟨B, OFF, none⟩) (n - 1) c) ∧ InW w w' B (OFF + i * 3) (cs.drop ((i + 1) * 3) ++ zF) := by
  have t0 := underlying22
  obtain ⟨i0, hi0, hz0, hz1, hz2⟩ := info_parts info_fold
  have hlen : (cs.drop ((i + 1) * 3)).length = (n - (i + 1)) * 3 := by rw [List.length_drop, hcl, Nat.sub_mul]
  obtain ⟨A, hA, hsrc⟩ : ∃ A : Addr, (if c = i + 1 then some (⟨B, OFF, none⟩ : Addr) else some ⟨B, OFF + (i + 1) * 3, none⟩) = some A ∧ (∀ j u, (cs.drop ((i + 1) * 3))[j]? = some u → w.drew.cell? (A.add j) = some u) := by
    by_cases h : c = i + 1
    · refine ⟨⟨B, OFF, none⟩, by simp [h], fun j u hu => ?_⟩
      have h0 : (cs.drop ((i + 1) * 3)).length = 0 := by rw [hlen]; omega
      rw [List.length_eq_zero_iff.1 h0] at hu
      simp at hu
    · refine ⟨⟨B, OFF + (i + 1) * 3, none⟩, by simp [h], fun j u hu => ?_⟩
      rw [List.getElem?_drop] at hu
      rw [Addr.add_lit, Nat.add_assoc]
      exact hcs _ u hu
  have h1d : ∀ u ∈ cs.drop ((i + 1) * 3), u.oneCell' = true := fun u hu => h1 u (List.mem_of_mem_drop hu)
  have hsome : ∀ j, j < n * 3 → (w.cell? ⟨B, OFF + j, none⟩).isSome = true := fun j hj => by
    rw [hcs j _ (List.getElem?_eq_getElem (by omega))]; rfl
  have hspare : ∀ j, j < (cs.drop ((i + 1) * 3)).length → (w.drew.cell? ⟨B, OFF + i * 3 + j, none⟩).isSome = true ∧ w.drew.frozen? ⟨B, OFF + i * 3 + j, none⟩ = false := fun j hj => by
    rw [hlen] at hj
    rw [Nat.add_assoc]
    exact ⟨hsome _ (by omega), hfz _ (by omega)⟩
  obtain ⟨W1, hW1⟩ : ∃ W1, W1 = w.drew.setCells B (OFF + i * 3) (cs.drop ((i + 1) * 3)) := ⟨_, rfl⟩
  have I1 : InW w W1 B (OFF + i * 3) (cs.drop ((i + 1) * 3)) := by
    rw [hW1]
    exact (inW_set (cs.drop ((i + 1) * 3)) (OFF + i * 3) w.drew fun arr t fr hg => by have := hroom arr t fr hg; rw [hlen]; omega).drew
  have hsome1 : ∀ j, j < n * 3 → (W1.cell? ⟨B, OFF + j, none⟩).isSome = true := fun j hj => by
    rw [hW1]
    exact isSome_setCells B _ _ _ (fun k hk => (hspare k hk).1) _ (hsome j hj)
  have hcl : ∀ ty, (Builtin.clear_ #[22] ty #[.slice (some ⟨B, OFF + (i + (n - (i + 1))) * 3, none⟩) (n - (i + (n - (i + 1)))) (c - (i + (n - (i + 1))))]).run prog W1 = .ok (.tuple #[]) (W1.setCells B (OFF + (i + (n - (i + 1))) * 3) zF) := fun ty => by
    have e1 : n - (i + (n - (i + 1))) = 1 := by omega
    rw [e1]
    exact run_clearK W1 _ 36 ty (.agg #[.int .i64 0, .int .i64 0, .bool false]) 3 t0 zero_fold rfl (by simp [Value.cells, Value.oneCell']) B _ _ (fun j hj => by rw [Nat.add_assoc]; exact hsome1 _ (by omega)) (fun j hj => by
      rw [hW1, World.frozen?_setCells, Nat.add_assoc]; exact hfz _ (by omega))
  subst hW1
  have mixd := mixed
  have hic : i ≤ c := by omega
  have hjc : i + 1 ≤ c := by omega
  have hjc' : (i : Int) + 1 ≤ (c : Int) := by omega
  have hjn' : (i : Int) + 1 ≤ (n : Int) := by omega
  have hj0 : 0 ≤ (i : Int) + 1 := by omega
  have htn : ((i : Int) + 1).toNat = i + 1 := by omega
  go_enter func36, ntmps36
  go_wp2_with fail
  go_region_law_o (refine step_append_room rfl (.tmp 22) (.tmp 25) 22 rfl 36 i0 3 t0 hi0 hz1 B OFF i c (by simp [Act.eval, Act.put]) A (n - (i + 1)) (c - (i + 1)) (cs.drop ((i + 1) * 3)) (by simp [Act.eval, Act.put, hA]) hlen hsrc h1d (by omega) hspare ?_)
  go_wp2
  go_ret
  refine ⟨by rw [show n - 1 = i + (n - (i + 1)) by omega]; rfl, ?_⟩
  have e3 : OFF + (i + (n - (i + 1))) * 3 = OFF + i * 3 + (cs.drop ((i + 1) * 3)).length := by rw [hlen]; omega
  refine I1.then ?_
  rw [e3]
  refine inW_set _ _ _ fun arr t fr hg => ?_
  obtain ⟨a1, a2, a3, a4, a5, a6⟩ := I1
  have hB : ∃ arr0 t0 fr0, w.heap[B]? = some (.cells arr0 t0 fr0) := by
    have := hsome 0 (by omega)
    rw [World.cell?] at this
    split at this
    · exact ⟨_, _, _, by assumption⟩
    · simp at this
  obtain ⟨arr0, t1, fr0, hb⟩ := hB
  obtain ⟨arr', q1, q2, _⟩ := a6 _ _ _ hb
  rw [q1] at hg; cases hg
  have := hroom _ _ _ hb
  rw [q2, hlen]
  simp only [zF, List.length_cons, List.length_nil]
  omega
end Go.Proofs.Ytgfccaaalkkdlaa.Am
end
section
/- slices.Insert at folds, one more of them ahead of the end, in any world. -/
set_option linter.unusedSimpArgs false
set_option linter.unusedVariables false
namespace Go.Proofs.Ytgfccaaalkkdlaa.Am
open Go Go.RowKit Go.Lib Go.Proofs.Try
set_option maxHeartbeats 4000000 in
set_option maxRecDepth 100000 in
theorem insert_room (B OFF n c i VB VO vc : Nat) (cs vs : List Value) (w : World) (hi : i < n) (hroom : n + 1 ≤ c) (hbig : n ≤ 1000000) (hcl : cs.length = n * 3) (hvl : vs.length = 3) (hvb : VB ≠ B)
    (hcs : ∀ j v, cs[j]? = some v → w.cell? ⟨B, OFF + j, none⟩ = some v) (hsp : ∀ j, j < (n + 1) * 3 → (w.cell? ⟨B, OFF + j, none⟩).isSome = true) (hfz : ∀ j, j < (n + 1) * 3 → w.frozen? ⟨B, OFF + j, none⟩ = false)
    (hvs : ∀ j v, vs[j]? = some v → w.cell? ⟨VB, VO + j, none⟩ = some v) (h1c : ∀ v ∈ cs, v.oneCell' = true) (h1v : ∀ v ∈ vs, v.oneCell' = true)
    (tA tB : TypeId) (kA kB : Nat) (hsa : w.shape? VB = some (tA, kA)) (hsb : w.shape? B = some (tB, kB)) (hkB : kB ≠ 0) (hfa : w.frozen? ⟨VB, VO, none⟩ = false) (hfe : w.frozen? ⟨VB, kA, none⟩ = false)
    (htop : ∀ arr t fr, w.heap[B]? = some (.cells arr t fr) → OFF + (n + 1) * 3 ≤ arr.size) :
    Calls prog 33 #[.slice (some ⟨B, OFF, none⟩) n c, .int .i64 i, .slice (some ⟨VB, VO, none⟩) 1 vc] w fun e w' =>
      e = .returned (.slice (some ⟨B, OFF, none⟩) (n + 1) c) ∧ InW w w' B (OFF + i * 3) (vs ++ cs.drop (i * 3)) := by
  have t0 := underlying22
  obtain ⟨i0, hi0, hz0, hz1, hz2⟩ := info_parts info_fold
  have hdl : (cs.drop (i * 3)).length = (n - i) * 3 := by rw [List.length_drop, hcl, Nat.sub_mul]
  have hz : ¬ ((i : Int) = (n : Int)) := by omega
  have hov : ∀ lb cb, (callFunc 40 #[.slice (some ⟨VB, VO, none⟩) 1 vc, .slice (some ⟨B, OFF + (i + 1) * 3, none⟩) lb cb]).run prog w = .ok (.value (.bool false)) w := fun lb cb => by
    rw [run_callFunc_extern func40 (by kernel_rfl) (by kernel_rfl) (by kernel_rfl) (e := Extern.SlicesOverlaps.overlaps #[22, 22] #[4]) (by kernel_rfl),
      Lib.run_overlaps_apart w 22 4 36 t0 3 size_fold ⟨VB, VO, none⟩ ⟨B, OFF + (i + 1) * 3, none⟩ 1 vc lb cb hvb tA tB kA kB hsa hsb hkB hfa hfe]
    rfl
  have hmin1 : Nat.min (n + 1 - i) (n - i) = n - i := by simp only [Nat.min_def]; split <;> omega
  have hmin2 : Nat.min 1 (n + 1 - i) = 1 := by simp only [Nat.min_def]; split <;> omega
  have hcp1 : ∀ ty dc sc, (Builtin.copy_ #[22, 22] ty #[.slice (some ⟨B, OFF + (i + 1) * 3, none⟩) (n - i) dc, .slice (some ⟨B, OFF + i * 3, none⟩) (n + 1 - i) sc]).run prog w.drew = .ok (goInt ((n - i : Nat) : Int)) (w.drew.setCells B (OFF + (i + 1) * 3) (cs.drop (i * 3))) := fun ty dc sc => by
    have := run_copyK w.drew 22 22 ty 36 B (OFF + (i + 1) * 3) (n - i) dc ⟨B, OFF + i * 3, none⟩ (n + 1 - i) sc 3 (cs.drop (i * 3)) i0 t0 hi0 hz1 (by rw [hdl, hmin1])
      (fun j v hj => by rw [Addr.add_lit, Nat.add_assoc]; exact hcs (i * 3 + j) v (by rwa [List.getElem?_drop] at hj))
      (fun j hj => by rw [hdl] at hj; rw [Nat.add_assoc]; exact hsp _ (by omega)) (fun j hj => by rw [hdl] at hj; rw [Nat.add_assoc]; exact hfz _ (by omega)) (fun v hv => h1c v (List.mem_of_mem_drop hv))
    rw [hmin1] at this
    exact this
  have hsp1 : ∀ k, k < (n + 1) * 3 → ((w.drew.setCells B (OFF + (i + 1) * 3) (cs.drop (i * 3))).cell? ⟨B, OFF + k, none⟩).isSome = true := fun k hk =>
    isSome_setCells B _ _ _ (fun j hj => by rw [hdl] at hj; rw [Nat.add_assoc]; exact hsp _ (by omega)) _ (hsp k hk)
  have hcp2 : ∀ ty dc, (Builtin.copy_ #[22, 22] ty #[.slice (some ⟨B, OFF + i * 3, none⟩) (n + 1 - i) dc, .slice (some ⟨VB, VO, none⟩) 1 vc]).run prog (w.drew.setCells B (OFF + (i + 1) * 3) (cs.drop (i * 3))) = .ok (goInt ((1 : Nat) : Int)) ((w.drew.setCells B (OFF + (i + 1) * 3) (cs.drop (i * 3))).setCells B (OFF + i * 3) vs) := fun ty dc => by
    have := run_copyK (w.drew.setCells B (OFF + (i + 1) * 3) (cs.drop (i * 3))) 22 22 ty 36 B (OFF + i * 3) (n + 1 - i) dc ⟨VB, VO, none⟩ 1 vc 3 vs i0 t0 hi0 hz1 (by rw [hvl, hmin2])
      (fun j v hj => by
        rw [Addr.add_lit, World.cell?_setCells_out B _ _ _ _ (fun h _ => absurd h hvb)]
        exact hvs j v hj)
      (fun j hj => by rw [hvl] at hj; rw [Nat.add_assoc]; exact hsp1 _ (by omega)) (fun j hj => by rw [hvl] at hj; rw [World.frozen?_setCells, Nat.add_assoc]; exact hfz _ (by omega)) h1v
    rw [hmin2] at this
    exact this
  have I2 : InW w ((w.drew.setCells B (OFF + (i + 1) * 3) (cs.drop (i * 3))).setCells B (OFF + i * 3) vs) B (OFF + i * 3) (vs ++ cs.drop (i * 3)) := by
    have e : OFF + (i + 1) * 3 = OFF + i * 3 + vs.length := by rw [hvl]; omega
    have I1 : InW w (w.drew.setCells B (OFF + i * 3 + vs.length) (cs.drop (i * 3))) B (OFF + i * 3 + vs.length) (cs.drop (i * 3)) :=
      (inW_set (cs.drop (i * 3)) (OFF + i * 3 + vs.length) w.drew fun arr t fr hg => by have := htop arr t fr hg; rw [hdl, hvl]; omega).drew
    rw [e]
    refine I1.two (inW_set _ _ _ fun arr t fr hg => ?_)
    have hB : ∃ arr0 t0 fr0, w.heap[B]? = some (.cells arr0 t0 fr0) := by
      have := hsp 0 (by omega)
      rw [World.cell?] at this
      split at this
      · exact ⟨_, _, _, by assumption⟩
      · simp at this
    obtain ⟨arr0, t1, fr0, hb⟩ := hB
    obtain ⟨arr', q1, q2, _⟩ := I1.2.2.2.2.2 _ _ _ hb
    rw [q1] at hg; cases hg
    have := htop _ _ _ hb
    rw [q2, hvl]
    omega
  have mixd := mixed
  have hw1 : IntKind.i64.wrap ((i : Int) + 1) = (i : Int) + 1 := by rw [IntKind.wrap_i64]; omega
  have hw2 : IntKind.i64.wrap ((n : Int) + 1) = (n : Int) + 1 := by rw [IntKind.wrap_i64]; omega
  have hb1 : (0 : Int) ≤ (i : Int) + 1 := by omega
  have hin : i ≤ n := by omega
  have htn : ((i : Int) + 1).toNat = i + 1 := by omega
  have htn2 : ((n : Int) + 1).toNat = n + 1 := by omega
  have hb2 : ¬ (c = i + 1) := by omega
  have hb3 : (i : Int) ≤ (n : Int) + 1 := by omega
  have hb4 : ¬ (c = i) := by omega
  have hb5 : ¬ ((c : Int) < (n : Int) + 1) := by omega
  have hb6 : (n : Int) + 1 ≤ (c : Int) := by omega
  have hb7 : (i : Int) + 1 ≤ (n : Int) + 1 := by omega
  have hb8 : (0 : Int) ≤ (n : Int) + 1 := by omega
  go_enter func33, ntmps33
  go_wp2_with (simp only [hov])
  go_region_law_o (refine step_copy_runI rfl _ _ 22 22 rfl _ _ (by simp [Act.eval, Act.put]) (by simp [Act.eval, Act.put]) (hcp1 _ _ _) ?_)
  go_wp2_with (at_builtin; refine wpList_copy_runI _ rfl _ _ 22 22 rfl _ _ rfl rfl (hcp2 _ _) ?_)
  go_ret
  exact ⟨rfl, I2⟩
end Go.Proofs.Ytgfccaaalkkdlaa.Am
end
section
/- slices.Insert at folds, one more of them ahead of the end, where there is no room, in any world. -/
set_option linter.unusedSimpArgs false
set_option linter.unusedVariables false
namespace Go.Proofs.Ytgfccaaalkkdlaa.Am
open Go Go.RowKit Go.Lib Go.Proofs.Try
set_option maxHeartbeats 4000000 in
set_option maxRecDepth 100000 in
theorem insert_grow (B OFF n i VB VO vc : Nat) (cs vs : List Value) (w : World) (hi : i < n) (hbig : n ≤ 1000000) (hcl : cs.length = n * 3) (hvl : vs.length = 3)
    (hcs : ∀ j v, cs[j]? = some v → w.cell? ⟨B, OFF + j, none⟩ = some v)
    (hvs : ∀ j v, vs[j]? = some v → w.cell? ⟨VB, VO + j, none⟩ = some v) (h1c : ∀ v ∈ cs, v.oneCell' = true) (h1v : ∀ v ∈ vs, v.oneCell' = true) :
    Calls prog 33 #[.slice (some ⟨B, OFF, none⟩) n n, .int .i64 i, .slice (some ⟨VB, VO, none⟩) 1 vc] w fun e w' =>
      ∃ g arr, e = .returned (.slice (some ⟨w.heap.size, 0, none⟩) (n + 1) g) ∧ n + 1 ≤ g ∧ arr.size = g * 3 ∧ Below w.heap.size w w' ∧ w'.heap[w.heap.size]? = some (.cells arr 36 (0, 0)) ∧
        ∀ j, j < (n + 1) * 3 → arr[j]? = (cs.take (i * 3) ++ (vs ++ cs.drop (i * 3)))[j]? := by
  have t0 := underlying22
  have t3 := underlying3
  obtain ⟨i0, hi0, hz0, hz1, hz2⟩ := info_parts info_fold
  have hdl : (cs.drop (i * 3)).length = (n - i) * 3 := by rw [List.length_drop, hcl, Nat.sub_mul]
  have htl : (cs.take (i * 3)).length = i * 3 := by rw [List.length_take, hcl]; omega
  have hz : ¬ ((i : Int) = (n : Int)) := by omega
  have hbw : B < w.heap.size := block_lt_of_cell (hcs 0 _ (List.getElem?_eq_getElem (by omega)))
  have hvw : VB < w.heap.size := block_lt_of_cell (hvs 0 _ (List.getElem?_eq_getElem (by omega)))
  have hkk : (n : Int) + 1 - (i : Int) = ((n + 1 - i : Nat) : Int) := by omega
  have hik : i + (n + 1 - i) = n + 1 := by omega
  have hold : (Builtin.firstCells i0.size i (.slice (some ⟨B, OFF, none⟩) i n)).run prog w.drew = .ok (cs.take (i * 3)).toArray w.drew := by
    rw [hz1]
    exact run_firstCells_some w.drew 3 i ⟨B, OFF, none⟩ i n (cs.take (i * 3)) (by rw [htl]) (fun j v hj => by
      rw [Addr.add_lit]
      rw [List.getElem?_take] at hj
      split at hj
      · exact hcs j v hj
      · cases hj)
  have hrz : ∀ ty, (Builtin.append_ #[22, 3] ty #[.slice (some ⟨B, OFF, none⟩) i n, .int .i64 ((n : Int) + 1 - (i : Int))]).run prog w =
      .ok (.slice (some ⟨w.heap.size, 0, none⟩) (n + 1) (grownCap w (n + 1) n 36)) (w.drew.alloc (.cells ((cs.take (i * 3)).toArray ++ Builtin.zeroCells (Value.agg #[.int .i64 0, .int .i64 0, .bool false]).cells (n + 1 - i) ++ Builtin.zeroCells (Value.agg #[.int .i64 0, .int .i64 0, .bool false]).cells (grownCap w (n + 1) n 36 - (n + 1))) 36)) := fun ty => by
    have h := Lib.run_append_grow_zeros w 22 3 ty 36 i0 _ .i64 .i64 t0 t3 hi0 hz0 (some ⟨B, OFF, none⟩) i n (cs.take (i * 3)) hold (n + 1 - i) (by omega) (by omega) (by omega) (by omega) (by rw [hz2]; omega) (by rw [hz2, hik]; exact growslice_fits (by omega) (by omega))
    rw [hik] at h
    rw [hkk]
    exact h
  obtain ⟨G, hG⟩ : ∃ G, G = grownCap w (n + 1) n 36 := ⟨_, rfl⟩
  obtain ⟨ROW, hROW⟩ : ∃ ROW : Array Value, ROW = (cs.take (i * 3)).toArray ++ Builtin.zeroCells (Value.agg #[.int .i64 0, .int .i64 0, .bool false]).cells (n + 1 - i) ++ Builtin.zeroCells (Value.agg #[.int .i64 0, .int .i64 0, .bool false]).cells (G - (n + 1)) := ⟨_, rfl⟩
  rw [← hG] at hrz
  rw [← hROW] at hrz
  have hGn : n + 1 ≤ G := by rw [hG]; exact grownCap_ge w _ _ _
  have hRl : ROW.size = G * 3 := by
    rw [hROW]
    simp only [Array.size_append, zeros_size, List.size_toArray, htl]
    show i * 3 + (n + 1 - i) * 3 + (G - (n + 1)) * 3 = G * 3
    omega
  have hRt : ∀ j, j < i * 3 → ROW[j]? = (cs.take (i * 3))[j]? := fun j hj => by
    rw [hROW, Array.append_assoc, Array.getElem?_append_left (by simp [htl]; omega)]
    simp
  clear hROW
  have hRs := hRl
  obtain ⟨W1, hW1⟩ : ∃ W1, W1 = w.drew.alloc (.cells ROW 36) := ⟨_, rfl⟩
  rw [← hW1] at hrz
  have hNb : W1.heap[w.heap.size]? = some (.cells ROW 36 (0, 0)) := by rw [hW1]; exact heap_alloc_new w.drew _
  have hN : ∀ j, j < (n + 1) * 3 → (W1.cell? ⟨w.heap.size, j, none⟩).isSome = true := fun j hj => by
    rw [hW1, World.cell?_alloc_at (w := w.drew) ROW _ w.heap.size j rfl, Array.getElem?_eq_getElem (by omega)]; rfl
  have hNf : ∀ j, W1.frozen? ⟨w.heap.size, j, none⟩ = false := fun j => by rw [hW1]; exact World.frozen?_alloc_at (w := w.drew) ROW _ w.heap.size j rfl
  have hOb : ∀ j v, w.cell? ⟨B, j, none⟩ = some v → W1.cell? ⟨B, j, none⟩ = some v := fun j v h => by rw [hW1, World.cell?_alloc_past (w := w.drew) _ B j hbw]; exact h
  have hOv : ∀ j v, w.cell? ⟨VB, j, none⟩ = some v → W1.cell? ⟨VB, j, none⟩ = some v := fun j v h => by rw [hW1, World.cell?_alloc_past (w := w.drew) _ VB j hvw]; exact h
  have hmin1 : Nat.min 1 (n + 1 - i) = 1 := by simp only [Nat.min_def]; split <;> omega
  have hmin2 : Nat.min (n - i) (n - i) = n - i := by simp [Nat.min_def]
  have hcpA : ∀ (W : World), (∀ x, W.cell? x = W1.cell? x) → (∀ x, W.frozen? x = W1.frozen? x) → ∀ ty dc, (Builtin.copy_ #[22, 22] ty #[.slice (some ⟨w.heap.size, i * 3, none⟩) (n + 1 - i) dc, .slice (some ⟨VB, VO, none⟩) 1 vc]).run prog W = .ok (goInt ((1 : Nat) : Int)) (W.setCells w.heap.size (i * 3) vs) := fun W hWc hWf ty dc => by
    have := run_copyK W 22 22 ty 36 w.heap.size (i * 3) (n + 1 - i) dc ⟨VB, VO, none⟩ 1 vc 3 vs i0 t0 hi0 hz1 (by rw [hvl, hmin1])
      (fun j v hj => by rw [Addr.add_lit, hWc]; exact hOv _ v (hvs j v hj))
      (fun j hj => by rw [hvl] at hj; rw [hWc]; exact hN _ (by omega)) (fun j hj => by rw [hWf]; exact hNf _) h1v
    rw [hmin1] at this
    exact this
  have hbN : B ≠ w.heap.size := by omega
  have hcpB : ∀ (W : World), (∀ x, W.cell? x = (W1.setCells w.heap.size (i * 3) vs).cell? x) → (∀ x, W.frozen? x = (W1.setCells w.heap.size (i * 3) vs).frozen? x) → ∀ ty dc sc, (Builtin.copy_ #[22, 22] ty #[.slice (some ⟨w.heap.size, (i + 1) * 3, none⟩) (n - i) dc, .slice (some ⟨B, OFF + i * 3, none⟩) (n - i) sc]).run prog W = .ok (goInt ((n - i : Nat) : Int)) (W.setCells w.heap.size ((i + 1) * 3) (cs.drop (i * 3))) := fun W hWc hWf ty dc sc => by
    have := run_copyK W 22 22 ty 36 w.heap.size ((i + 1) * 3) (n - i) dc ⟨B, OFF + i * 3, none⟩ (n - i) sc 3 (cs.drop (i * 3)) i0 t0 hi0 hz1 (by rw [hdl, hmin2])
      (fun j v hj => by
        rw [Addr.add_lit, hWc, World.cell?_setCells_out _ _ _ _ _ (fun h _ => absurd h hbN), Nat.add_assoc]
        exact hOb _ v (hcs (i * 3 + j) v (by rwa [List.getElem?_drop] at hj)))
      (fun j hj => by rw [hdl] at hj; rw [hWc]; exact isSome_setCells _ _ _ _ (fun t ht => hN _ (by omega)) _ (hN _ (by omega)))
      (fun j hj => by rw [hWf, World.frozen?_setCells]; exact hNf _) (fun v hv => h1c v (List.mem_of_mem_drop hv))
    rw [hmin2] at this
    exact this
  have fin : ∀ W2 W3, InW W1 W2 w.heap.size (i * 3) vs → InW W2 W3 w.heap.size ((i + 1) * 3) (cs.drop (i * 3)) → Below w.heap.size w W3 ∧ ∃ arr, arr.size = G * 3 ∧ W3.heap[w.heap.size]? = some (.cells arr 36 (0, 0)) ∧ ∀ j, j < (n + 1) * 3 → arr[j]? = (cs.take (i * 3) ++ (vs ++ cs.drop (i * 3)))[j]? := fun W2 W3 IA IB => by
    have e : (i + 1) * 3 = i * 3 + vs.length := by rw [hvl]; omega
    rw [e] at IB
    obtain ⟨a1, a2, a3, a4, a5, a6⟩ := IA.then IB
    obtain ⟨arr', g1, g2, g3⟩ := a6 _ _ _ hNb
    have b1 : Below w.heap.size w W1 := by
      rw [hW1]
      have b0 := below_alloc' w.drew (Obj.cells ROW 36)
      exact ⟨b0.os, b0.tape, b0.output, b0.size, b0.block⟩
    refine ⟨⟨a1.trans b1.os, a2.trans b1.tape, a3.trans b1.output, by rw [a4]; exact b1.size, fun k hk => (a5 k (by omega)).trans (b1.block k hk)⟩, arr', by rw [g2, hRl], g1, fun j hj => ?_⟩
    rw [g3]
    by_cases hj2 : i * 3 ≤ j
    · have hr := List.getElem?_append_right (l₁ := cs.take (i * 3)) (l₂ := vs ++ cs.drop (i * 3)) (i := j) (by rw [htl]; exact hj2)
      rw [if_pos ⟨hj2, by rw [List.length_append, hvl, hdl]; omega⟩, hr, htl]
    · rw [if_neg (by omega), hRt j (by omega), List.getElem?_append_left (by rw [htl]; omega)]
  have hG63 : G ≤ 9223372036854775807 := by
    have := grownCap_le_maxLen w (n + 1) n 36 (by unfold maxLen; omega)
    rw [← hG] at this
    unfold maxLen at this
    omega
  have hGi : ¬ (G = i) := by omega
  have hGim : ¬ (G = i + 1) := by omega
  have hci : ¬ (n = i) := by omega
  subst hW1
  have hE1 : ∀ x, ((w.alloc (.cells ROW 36)).drew).cell? x = (w.drew.alloc (.cells ROW 36)).cell? x := fun x => rfl
  have hE2 : ∀ x, ((w.alloc (.cells ROW 36)).drew).frozen? x = (w.drew.alloc (.cells ROW 36)).frozen? x := fun x => rfl
  have hF1 : ∀ x, (((w.alloc (.cells ROW 36)).drew.setCells w.heap.size (i * 3) vs).drew).cell? x = ((w.drew.alloc (.cells ROW 36)).setCells w.heap.size (i * 3) vs).cell? x := fun x => rfl
  have hF2 : ∀ x, (((w.alloc (.cells ROW 36)).drew.setCells w.heap.size (i * 3) vs).drew).frozen? x = ((w.drew.alloc (.cells ROW 36)).setCells w.heap.size (i * 3) vs).frozen? x := fun x => rfl
  have hw1 : IntKind.i64.wrap ((i : Int) + 1) = (i : Int) + 1 := by rw [IntKind.wrap_i64]; omega
  have hw2 : IntKind.i64.wrap ((n : Int) + 1) = (n : Int) + 1 := by rw [IntKind.wrap_i64]; omega
  have hw3 : IntKind.i64.wrap ((n : Int) + 1 - (i : Int)) = (n : Int) + 1 - (i : Int) := by rw [IntKind.wrap_i64]; omega
  have hb1 : (0 : Int) ≤ (i : Int) + 1 := by omega
  have hin : i ≤ n := by omega
  have htn : ((i : Int) + 1).toNat = i + 1 := by omega
  have hb3 : (i : Int) ≤ (n : Int) := by omega
  have hb4 : (n : Int) < (n : Int) + 1 := by omega
  have hb5 : (i : Int) ≤ (n : Int) + 1 := by omega
  have hb6 : i ≤ n + 1 := by omega
  have hb7 : (i : Int) + 1 ≤ (n : Int) + 1 := by omega
  have mixd := mixed
  clear hkk hik hold hRl hRt hG
  go_enter func33, ntmps33
  go_wp2_with (first
    | (at_builtin; refine Lib.wpList_append_run _ rfl _ _ _ _ rfl _ _ rfl rfl _ _ (hrz _) ?_)
    | (at_builtin; refine wpList_copy_runI _ rfl _ _ 22 22 rfl _ _ rfl rfl (hcpA _ hE1 hE2 _ _) ?_)
    | (at_builtin; refine wpList_copy_runI _ rfl _ _ 22 22 rfl _ _ rfl rfl (hcpA _ (fun _ => rfl) (fun _ => rfl) _ _) ?_)
    | (at_builtin; refine wpList_copy_runI _ rfl _ _ 22 22 rfl _ _ rfl rfl (hcpB _ (fun _ => rfl) (fun _ => rfl) _ _ _) ?_))
  go_region_law_o (refine step_copy_runI rfl _ _ 22 22 rfl (.slice (some ⟨w.heap.size, (i + 1) * 3, none⟩) (n - i) (G - (i + 1))) (.slice (some ⟨B, OFF + i * 3, none⟩) (n - i) (n - i)) (by simp [Act.eval, Act.put]) (by simp [Act.eval, Act.put]) (hcpB _ hF1 hF2 3 (G - (i + 1)) (n - i)) ?_)
  go_wp2
  go_ret
  have hr1 : ∀ arr t fr, (w.drew.alloc (.cells ROW 36)).heap[w.heap.size]? = some (.cells arr t fr) → i * 3 + vs.length ≤ arr.size := fun arr t fr hg => by
    rw [hNb] at hg; cases hg
    rw [hRs, hvl]; omega
  have IA := inW_set (B := w.heap.size) vs (i * 3) (w.drew.alloc (.cells ROW 36)) hr1
  have hr2 : ∀ arr t fr, ((w.drew.alloc (.cells ROW 36)).setCells w.heap.size (i * 3) vs).heap[w.heap.size]? = some (.cells arr t fr) → (i + 1) * 3 + (cs.drop (i * 3)).length ≤ arr.size := fun arr t fr hg => by
    obtain ⟨arr', q1, q2, _⟩ := IA.2.2.2.2.2 _ _ _ hNb
    rw [q1] at hg; cases hg
    rw [q2, hRs, hdl]; omega
  have IB := (inW_set (B := w.heap.size) (cs.drop (i * 3)) ((i + 1) * 3) ((w.drew.alloc (.cells ROW 36)).setCells w.heap.size (i * 3) vs).drew hr2).drew
  obtain ⟨hb, arr, s, g, e⟩ := fin _ _ IA IB
  exact ⟨G, arr, rfl, hGn, s, hb, g, e⟩
end Go.Proofs.Ytgfccaaalkkdlaa.Am
end
