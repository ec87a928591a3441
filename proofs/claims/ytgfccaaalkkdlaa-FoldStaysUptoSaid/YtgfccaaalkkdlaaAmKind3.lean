/- The frame Am, a text beside the others: slices of slices, rows that grow by other rows. Nothing of a program stands here. -/
import Derived.Test.YtgfccaaalkkdlaaAmKind2
set_option linter.unusedVariables false
set_option linter.unusedSimpArgs false
namespace Go.Proofs.Ytgfccaaalkkdlaa.Am
open Go Go.RowKit
section
variable {P : Program} {h h' h'' : Heap} {n s m : Nat} {b : Nat} {cs : List Value} {D : Nat → Prop} {v : Value} {k : IntKind} {xs : List Int}
/-- One change behind another. -/
theorem Ch.then {D' : Nat → Prop} (H1 : Ch D h h') (H2 : Ch D' h' h'') (hd : ∀ b, D' b → h.size ≤ b ∨ D b) : Ch D h h'' := by
  obtain ⟨a1, a2, a3, a4, a5, a6⟩ := H1
  obtain ⟨c1, c2, c3, c4, c5, c6⟩ := H2
  refine ⟨c1, Nat.le_trans a2 c2, fun b hb hn => (c3 b (by omega) fun e => (hd b e).elim (fun e => by omega) hn).trans (a3 b hb hn), fun b k hb hk => ?_, fun b k hb hk => ?_, fun b hb hn => (c6 b (by omega) fun e => (hd b e).elim (fun e => by omega) hn).trans (a6 b hb hn)⟩
  · rcases Nat.lt_or_ge b h'.size with h1 | h1
    · obtain ⟨k0, g1, g2⟩ := c5 b k h1 hk
      rw [g2]; exact a4 b k0 hb g1
    · rcases c4 b k h1 hk with g | ⟨y, k0, g1, g2, g3⟩
      · exact .inl (by omega)
      · rw [g3]
        rcases Nat.lt_or_ge y h.size with hy | hy
        · rcases hd y g1 with e | e
          · omega
          · obtain ⟨k9, q1, q2⟩ := a5 y k0 hy g2
            exact .inr ⟨y, k9, e, q1, q2⟩
        · exact a4 y k0 hy g2
  · obtain ⟨k0, g1, g2⟩ := c5 b k (by omega) hk
    obtain ⟨k9, q1, q2⟩ := a5 b k0 hb g1
    exact ⟨k9, q1, g2.trans q2⟩
/-- A part of a slice, from L to H. -/
def sliceV (v : Value) (s L H : Nat) : Value :=
  match v with
  | .slice (some a) _ c => .slice (some ⟨a.block, a.off + L * s, none⟩) (H - L) (if c = 0 then 0 else c - 1 - L + 1)
  | _ => .slice none 0 0
theorem sliceV_blk {v : Value} {s L H : Nat} : blkOf (sliceV v s L H) = blkOf v := by
  unfold sliceV; split
  · rfl
  · rename_i hh
    cases v with
    | slice a n c => cases a with
      | none => rfl
      | some a => exact absurd rfl (hh a n c)
    | _ => rfl
theorem Rd.part (R : Rd P h s v n cs) {L H : Nat} (h1 : L ≤ H) (h2 : H ≤ n) : Rd P h s (sliceV v s L H) (H - L) ((cs.drop (L * s)).take ((H - L) * s)) := by
  obtain ⟨hl, h3⟩ := R
  have e1 : H * s ≤ n * s := Nat.mul_le_mul_right s h2
  have e2 : L * s ≤ H * s := Nat.mul_le_mul_right s h1
  have e3 : (H - L) * s = H * s - L * s := Nat.sub_mul ..
  refine ⟨by simp; omega, ?_⟩
  rcases h3 with ⟨rfl, rfl | rfl⟩ | ⟨b, o, c, k, rfl, hb, hk, hlv, ha, ho, hc⟩
  · obtain rfl : H = 0 := by omega
    obtain rfl : L = 0 := by omega
    exact .inl ⟨rfl, .inl rfl⟩
  · obtain rfl : H = 0 := by omega
    obtain rfl : L = 0 := by omega
    exact .inl ⟨rfl, .inl rfl⟩
  · refine .inr ⟨b, o + L * s, _, k, rfl, hb, hk, hlv, ha, by omega, ?_⟩
    rw [← hc]
    refine List.ext_getElem? fun j => ?_
    simp only [List.getElem?_take, List.getElem?_drop]
    by_cases hj : j < (H - L) * s
    · rw [if_pos hj, if_pos hj, if_pos (by omega)]; congr 1; omega
    · rw [if_neg hj, if_neg hj]
theorem Rd.slice2 (R : Rd P h s v n cs) {t e : TypeId} (ht : P.underlying t = some (.slice e)) (hs : asz P e = some s) {q q' : IntKind} {i j : Int} (h0 : 0 ≤ i) (h1 : i ≤ j) (h2 : j ≤ n) :
    aslice P h t v (some (.int q i)) (some (.int q' j)) none = some (sliceV v s i.toNat j.toNat) := by
  obtain ⟨hl, h3⟩ := R
  have h0j : 0 ≤ j := by omega
  rcases h3 with ⟨rfl, rfl | rfl⟩ | ⟨b, o, c, k, rfl, hb, hk, hlv, ha, ho, hc⟩
  · obtain rfl : j = 0 := by omega
    obtain rfl : i = 0 := by omega
    simp [aslice, ht, hs, boundOf, sliceV]
  · obtain rfl : j = 0 := by omega
    obtain rfl : i = 0 := by omega
    simp [aslice, ht, hs, boundOf, sliceV]
  · have hjm : j ≤ ((if c = 0 then n else max n (c - 1) : Nat) : Int) := by split <;> omega
    have hij : i ≤ (j.toNat : Int) := by omega
    simp only [aslice, ht, hs, hk, ha, boundOf, if_true, h0, h0j, hjm, hij, and_self, Option.isSome_none, Bool.false_eq_true, false_and, if_false, sliceV]
theorem Rd.sliceHi (R : Rd P h s v n cs) {t e : TypeId} (ht : P.underlying t = some (.slice e)) (hs : asz P e = some s) {q' : IntKind} {j : Int} (h1 : 0 ≤ j) (h2 : j ≤ n) :
    aslice P h t v none (some (.int q' j)) none = some (sliceV v s 0 j.toNat) := by
  obtain ⟨hl, h3⟩ := R
  rcases h3 with ⟨rfl, rfl | rfl⟩ | ⟨b, o, c, k, rfl, hb, hk, hlv, ha, ho, hc⟩
  · obtain rfl : j = 0 := by omega
    simp [aslice, ht, hs, boundOf, sliceV]
  · obtain rfl : j = 0 := by omega
    simp [aslice, ht, hs, boundOf, sliceV]
  · have hjm : j ≤ ((if c = 0 then n else max n (c - 1) : Nat) : Int) := by split <;> omega
    simp only [aslice, ht, hs, hk, ha, boundOf, if_true, h1, hjm, and_self, Option.isSome_none, Bool.false_eq_true, false_and, if_false, sliceV]
theorem Rd.sliceLo (R : Rd P h s v n cs) {t e : TypeId} (ht : P.underlying t = some (.slice e)) (hs : asz P e = some s) {q : IntKind} {i : Int} (h0 : 0 ≤ i) (h2 : i ≤ n) :
    aslice P h t v (some (.int q i)) none none = some (sliceV v s i.toNat n) := by
  obtain ⟨hl, h3⟩ := R
  rcases h3 with ⟨rfl, rfl | rfl⟩ | ⟨b, o, c, k, rfl, hb, hk, hlv, ha, ho, hc⟩
  · obtain rfl : i = 0 := by omega
    simp [aslice, ht, hs, boundOf, sliceV]
  · obtain rfl : i = 0 := by omega
    simp [aslice, ht, hs, boundOf, sliceV]
  · simp only [aslice, ht, hs, hk, ha, boundOf, if_true, h0, h2, and_self, Option.isSome_none, Bool.false_eq_true, false_and, if_false, sliceV]
theorem RdI.part (R : RdI P h k v xs) {L H : Nat} (h1 : L ≤ H) (h2 : H ≤ xs.length) : RdI P h k (sliceV v 1 L H) ((xs.drop L).take (H - L)) := by
  have := Rd.part R h1 h2
  unfold RdI
  simp only [Nat.mul_one, List.length_take, List.length_drop] at this ⊢
  rw [show min (H - L) (xs.length - L) = H - L by omega, List.map_take, List.map_drop]
  exact this
theorem RdI.partLo (R : RdI P h k v xs) {L : Nat} (h1 : L ≤ xs.length) : RdI P h k (sliceV v 1 L xs.length) (xs.drop L) := by
  have := R.part h1 (Nat.le_refl _)
  rwa [List.take_of_length_le (by simp)] at this
theorem box_new {tm : Tm} {e : TypeId} {x : Operand} {cs : List Value} (hx : (ev tm x).cells.toList = cs) (hs : ∃ m, asz P e = some m) (h1 : (ev tm x).cells.all one = true) : aeff P tm h (.box e x) = some (.pointer (some ⟨h.size, 0, none⟩), h.new e cs) := by
  obtain ⟨m, hs⟩ := hs
  simp [aeff, hs, h1, hx]
theorem ptr_some {t e : TypeId} {a : Addr} (ht : P.underlying t = some (.pointer e)) : abin P .eql t (.pointer (some a)) (.pointer none) = some (.bool false) := by simp [abin, aeq, ht]
theorem ptr_none {t e : TypeId} (ht : P.underlying t = some (.pointer e)) : abin P .eql t (.pointer none) (.pointer none) = some (.bool true) := by simp [abin, aeq, ht]
theorem ptr_nsome {t e : TypeId} {a : Addr} (ht : P.underlying t = some (.pointer e)) : abin P .neq t (.pointer (some a)) (.pointer none) = some (.bool true) := by simp [abin, aeq, ht]
theorem ptr_nnone {t e : TypeId} (ht : P.underlying t = some (.pointer e)) : abin P .neq t (.pointer none) (.pointer none) = some (.bool false) := by simp [abin, aeq, ht]
/-- An empty slice that is written. -/
theorem build0 {t e : TypeId} (ht : P.underlying t = some (.slice e)) (hs : asz P e = some s) : abuildSlice P h t 0 #[] = some (.slice (some ⟨h.size, 0, none⟩) 0 1, h.new e []) := by
  have hr : Array.range 0 = #[] := by decide
  simp [abuildSlice, ht, hs, firstOf, Instr.fill, hr]
/-- What an append reads of the second row. -/
theorem Rd.news (R : Rd P h s v n cs) : anews h s v = some (n, cs) := by
  obtain ⟨hl, h3⟩ := R
  rcases h3 with ⟨rfl, rfl | rfl⟩ | ⟨b, o, c, k, rfl, hb, hk, hlv, ha, ho, hc⟩
  · simp at hl; subst hl; simp [anews]
  · simp at hl; subst hl; simp [anews]
  · simp only [anews, hk, hlv, ho, and_self, if_true, hc]
/-- A row grows by another one, whatever this is. -/
theorem Own.appendRd {B : Nat} (H : Wf h) (hB : B ≤ h.size) (O : Own P B h s v n cs) {t t2 e : TypeId} {d2 : TypeDesc} {i : TypeInfo} (ht : P.underlying t = some (.slice e)) (ht2 : P.underlying t2 = some d2) (hd2 : isRowD d2 = true)
    (hi : P.info? e = some i) (hz : zeroFits i = true ∧ i.bytes = b ∧ i.size = s) (hb : 0 < b) {x : Value} {m : Nat} {news : List Value} (X : Rd P h s x m news) (hbig : (n + m) * b ≤ 140737488355328) :
    ∃ v' h', aappend P h t t2 v x = some (v', h') ∧ Own P B h' s v' (n + m) (cs ++ news) ∧ Reads h h' ∧ Ch (fun y => blkOf v = some y ∧ B ≤ y) h h' ∧ (v' = v ∨ v' = .slice none 0 0 ∨ v' = .slice (some ⟨h.size, 0, none⟩) (n + m) 0) := by
  obtain ⟨hz, rfl, rfl⟩ := hz
  by_cases hm : m = 0
  · subst hm
    have hn : news = [] := List.eq_nil_of_length_eq_zero (by have := X.1; simpa using this)
    subst hn
    have KK : Ch (fun y => blkOf v = some y ∧ B ≤ y) h h := Ch.mono (Keeps.refl H) (fun _ e => e.elim)
    have RR : Reads h h := (Keeps.refl H).reads H
    obtain ⟨R, h3⟩ := O
    have R0 := R
    obtain ⟨hl, h2⟩ := R
    rcases h2 with ⟨rfl, hv⟩ | ⟨b, o, c, k, rfl, hlt, hk, hlv, ha, ho, hc⟩
    · have hcs : cs = [] := by simpa using hl
      subst hcs
      refine ⟨.slice none 0 0, h, ?_, Own.nil0, RR, KK, .inr (.inl rfl)⟩
      rcases hv with rfl | rfl <;> simp [aappend, ht, ht2, hi, hd2, hb, hz, X.news]
    · refine ⟨_, h, ?_, ⟨by simpa using R0, by simpa using h3⟩, RR, KK, .inl rfl⟩
      simp only [aappend, ht, ht2, hi, hd2, hb, hz, and_self, if_true, X.news]
  · obtain ⟨h', e1, O', z, R, C, _⟩ := O.append H hB ht ht2 hd2 hi hz hb rfl (x := x) X.news (by omega) X.1 hbig
    exact ⟨_, h', e1, O', R, C, .inr (.inr rfl)⟩
/-- A new row of a copy: what was there is as it was. -/
theorem Own.ch_keeps {B : Nat} {h0 : Heap} (K : Keeps h0 h) (hB : h0.size = B) (C : Ch (fun y => blkOf v = some y ∧ B ≤ y) h h') : Keeps h0 h' := K.step C fun b hb => by have := hb.2; omega
end
end Go.Proofs.Ytgfccaaalkkdlaa.Am
