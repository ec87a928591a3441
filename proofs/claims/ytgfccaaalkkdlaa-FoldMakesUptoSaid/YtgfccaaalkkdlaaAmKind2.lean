/- The frame Am, a text beside the others: variables of a call's own whose fields are set; rows of structs whose fields are set. Nothing of a program stands here. -/
import Derived.Test.YtgfccaaalkkdlaaAmKind
set_option linter.unusedVariables false
set_option linter.unusedSimpArgs false
namespace Go.Proofs.Ytgfccaaalkkdlaa.Am
open Go Go.RowKit
/-- A variable of the call's own: its memory is no other block's. -/
def Var (h : Heap) (b : Nat) (cs : List Value) : Prop := ∃ k, h.get b = some k ∧ k.cells = cs ∧ k.live = true ∧ k.ro = false ∧ k.fam = b ∧ ∀ x k', x ≠ b → h.get x = some k' → k'.fam ≠ b
/-- The blocks of one memory. -/
def FamOf (h : Heap) (b : Nat) (x : Nat) : Prop := ∃ k kb, h.get x = some k ∧ h.get b = some kb ∧ k.fam = kb.fam
section
variable {P : Program} {h h' h'' : Heap} {n s m : Nat} {b : Nat} {cs : List Value} {D : Nat → Prop} {v : Value}
theorem over_one {xs : List Value} {i : Nat} {v : Value} (hi : i < xs.length) : over xs i [v] = xs.set i v := by
  refine List.ext_getElem? fun j => ?_
  rw [over_get (by simp; omega), List.getElem?_set]
  by_cases e : i = j
  · subst e; simp [hi]
  · rw [if_neg (by simp; omega), if_neg e]
theorem over_all {xs vs : List Value} (hl : vs.length = xs.length) : over xs 0 vs = vs := by
  simp [over, hl]
theorem Var.lt (H : Wf h) (V : Var h b cs) : b < h.size := by
  obtain ⟨k, h1, _⟩ := V
  exact H.lt h1
theorem Var.new (H : Wf h) {e : TypeId} {cs : List Value} : Var (h.new e cs) h.size cs := by
  refine ⟨_, new_self, rfl, rfl, rfl, rfl, fun x k' hx hk => ?_⟩
  have : (h.new e cs).get x = h.get x := Heap.push_ne hx
  rw [this] at hk
  have := H.2 x k' hk
  have := H.lt hk
  omega
theorem Ch.var (H : Wf h) (C : Ch D h h') (V : Var h b cs) (hd : ¬ D b) : Var h' b cs := by
  have hlt := V.lt H
  obtain ⟨k, h1, h2, h3, h4, h5, h6⟩ := V
  obtain ⟨c1, c2, c3, c4, c5, _⟩ := C
  refine ⟨k, (c3 b hlt hd).trans h1, h2, h3, h4, h5, fun x k' hx hk => ?_⟩
  rcases Nat.lt_or_ge x h.size with hxs | hxs
  · obtain ⟨k0, g1, g2⟩ := c5 x k' hxs hk
    rw [g2]; exact h6 x k0 hx g1
  · rcases c4 x k' hxs hk with g | ⟨y, k0, g1, g2, g3⟩
    · omega
    · rw [g3]
      by_cases e : y = b
      · subst e; exact absurd g1 hd
      · exact h6 y k0 e g2
theorem Keeps.var (H : Wf h) (K : Keeps h h') (V : Var h b cs) : Var h' b cs := Ch.var H K V id
theorem Var.load1 (V : Var h b cs) {t : TypeId} {d : TypeDesc} (ht : P.underlying t = some d) (hd : isAggD d = false) {i : Nat} : aload P h t ⟨b, i, none⟩ = cs[i]? := by
  obtain ⟨k, h1, rfl, h3, _⟩ := V
  simp [aload, h1, h3, ht, hd]
theorem Var.loadA (V : Var h b cs) {t : TypeId} {d : TypeDesc} (ht : P.underlying t = some d) (hd : isAggD d = true) (hs : asz P t = some cs.length) : aload P h t ⟨b, 0, none⟩ = some (.agg cs.toArray) := by
  obtain ⟨k, h1, rfl, h3, _⟩ := V
  simp [aload, h1, h3, ht, hd, hs]
theorem store_ch (H : Wf h) {k : Blk} (hk : h.get b = some k) {i : Nat} {vs : List Value} : Ch (FamOf h b) h (h.store b k i vs) := by
  have hkf : (h.kill k.fam).get b = some (Blk.killed k.fam k) := by rw [kill_get, hk]; rfl
  have hwf : Wf (h.store b k i vs) := Wf.put (H.kill k.fam) hkf (by rw [killed_fam])
  have hne : ∀ x, x ≠ b → (h.store b k i vs).get x = (h.get x).map (Blk.killed k.fam) := fun x hx => by
    simp only [Heap.store]; rw [Heap.put_ne hx, kill_get]
  have hself : (h.store b k i vs).get b = some { k with cells := over k.cells i vs } := Heap.put_self
  refine ⟨hwf, Nat.le_refl _, fun x hx hd => ?_, fun x kx hx hkx => ?_, fun x kx hx hkx => ?_, fun _ _ _ => rfl⟩
  · have hxb : x ≠ b := fun e => hd (by subst e; exact ⟨k, k, hk, hk, rfl⟩)
    rw [hne x hxb]
    cases hg : h.get x with
    | none => rfl
    | some k' => simp only [Option.map_some]; rw [killed_ne fun e => hd ⟨k', k, hg, hk, e⟩]
  · have := hwf.lt hkx
    have h2 : x < h.size := this
    omega
  · by_cases e : x = b
    · subst e; rw [hself] at hkx; cases hkx; exact ⟨k, hk, rfl⟩
    · rw [hne x e, Option.map_eq_some_iff] at hkx
      obtain ⟨k0, g1, rfl⟩ := hkx
      exact ⟨k0, g1, killed_fam⟩
theorem Var.store (H : Wf h) (V : Var h b cs) {t : TypeId} {v : Value} {i : Nat} (ht : asz P t = some v.cells.size) (hi : i + v.cells.size ≤ cs.length) (h1 : v.cells.all one = true) :
    ∃ h', storeV P h t (.pointer (some ⟨b, i, none⟩)) v = some (undef, h') ∧ Var h' b (over cs i v.cells.toList) ∧ Ch (fun x => x = b) h h' ∧ h'.size = h.size := by
  obtain ⟨k, g1, rfl, g3, g4, g5, g6⟩ := V
  refine ⟨h.store b k i v.cells.toList, ?_, ?_, (store_ch H g1).mono ?_, rfl⟩
  · simp [storeV, astore, g1, g3, g4, ht, hi, h1]
  · refine ⟨_, Heap.put_self, rfl, g3, g4, g5, fun x k' hx hk => ?_⟩
    have hne : (h.store b k i v.cells.toList).get x = (h.get x).map (Blk.killed k.fam) := by
      simp only [Heap.store]; rw [Heap.put_ne hx, kill_get]
    rw [hne, Option.map_eq_some_iff] at hk
    obtain ⟨k0, e1, rfl⟩ := hk
    rw [killed_fam]; exact g6 x k0 hx e1
  · rintro x ⟨k1, k2, e1, e2, e3⟩
    rw [g1] at e2; cases e2
    by_cases e : x = b
    · exact e
    · exact absurd (e3.trans g5) (g6 x k1 e e1)
theorem Var.store1 (H : Wf h) (V : Var h b cs) {t : TypeId} {v : Value} {i : Nat} (ht : asz P t = some 1) (hi : i < cs.length) (h1 : one v = true) :
    ∃ h', storeV P h t (.pointer (some ⟨b, i, none⟩)) v = some (undef, h') ∧ Var h' b (cs.set i v) ∧ Ch (fun x => x = b) h h' ∧ h'.size = h.size := by
  have hc := one_cells h1
  obtain ⟨h', e, V', r⟩ := V.store (P := P) (t := t) (v := v) (i := i) H (by rw [hc]; exact ht) (by rw [hc]; simp; omega) (by rw [hc]; simp [h1])
  refine ⟨h', e, ?_, r⟩
  rw [hc] at V'
  rw [← over_one hi]; exact V'
/-- A row behind an append is of the third kind. -/
theorem Own.third {B : Nat} {a : Addr} (O : Own P B h s (.slice (some a) n 0) n cs) : ∃ b o k, a = ⟨b, o, none⟩ ∧ B ≤ b ∧ h.get b = some k ∧ k.ro = false ∧ k.tail = true ∧ k.live = true ∧ asz P k.elem = some s ∧ o + n * s = k.cells.length ∧ b < h.size ∧ (k.cells.drop o).take (n * s) = cs := by
  obtain ⟨⟨_, h2⟩, h3⟩ := O
  rcases h3 with ⟨_, e⟩ | ⟨_, e⟩ | ⟨b, o, c, k, e, hB, hk, hr, ht, hl, hlt⟩
  · cases e
  · cases e
  · cases e
    rcases h2 with ⟨_, e | e⟩ | ⟨b', o', c', k', e, _, hk', hl', ha, _, hc⟩
    · cases e
    · cases e
    · cases e
      rw [hk] at hk'; cases hk'
      exact ⟨b, o, k, rfl, hB, hk, hr, ht, hl', ha, hl, hlt, hc⟩
theorem Own.store (H : Wf h) {B : Nat} {a : Addr} (O : Own P B h s (.slice (some a) n 0) n cs) {t : TypeId} {w : Value} {i j : Nat} (ht : asz P t = some 1) (h1 : one w = true) (hi : i < n) (hj : j < s) :
    ∃ h', storeV P h t (.pointer (some ⟨(eltA (.slice (some a) n 0) s i).block, (eltA (.slice (some a) n 0) s i).off + j, none⟩)) w = some (undef, h') ∧ Own P B h' s (.slice (some a) n 0) n (cs.set (i * s + j) w) ∧ Ch (FamOf h a.block) h h' ∧ h'.size = h.size ∧
      (∃ k k', h.get a.block = some k ∧ h'.get a.block = some k' ∧ k'.fam = k.fam) := by
  have hlen := O.1.1
  obtain ⟨b, o, k, rfl, hB, hk, hr, htl, hlv, ha, hol, hlt, hc⟩ := O.third
  have hij : i * s + j < n * s := by
    have : (i + 1) * s ≤ n * s := Nat.mul_le_mul_right s (by omega)
    rw [Nat.add_mul] at this; omega
  have hw : w.cells = #[w] := one_cells h1
  have hself : (h.store b k (o + i * s + j) [w]).get b = some { k with cells := over k.cells (o + i * s + j) [w] } := Heap.put_self
  have hover : over k.cells (o + i * s + j) [w] = k.cells.set (o + i * s + j) w := over_one (by omega)
  refine ⟨h.store b k (o + i * s + j) [w], ?_, ?_, store_ch H hk, rfl, k, _, hk, hself, rfl⟩
  · simp only [storeV, astore, eltA, hk, hlv, hr, ht, hw]
    rw [if_pos (by simp [h1]; omega)]
  · have hcs : ((k.cells.set (o + i * s + j) w).drop o).take (n * s) = cs.set (i * s + j) w := by
      rw [← hc, List.drop_set, if_neg (by omega), show o + i * s + j - o = i * s + j by omega, List.take_set]
    refine ⟨⟨by rw [List.length_set]; exact hlen, .inr ⟨b, o, 0, _, rfl, hlt, hself, hlv, ha, ?_, ?_⟩⟩, .inr (.inr ⟨b, o, 0, _, rfl, hB, hself, hr, htl, ?_, hlt⟩)⟩
    · rw [hover, List.length_set]; omega
    · rw [hover]; exact hcs
    · rw [hover, List.length_set]; exact hol
theorem Keeps.ch (K : Keeps h h') (C : Ch D h' h'') (hd : ∀ b, D b → b < h.size) : Ch D h h'' := by
  obtain ⟨c1, c2, c3, c4, c5, c6⟩ := C
  obtain ⟨k1, k2, k3, k4, k5, k6⟩ := K
  refine ⟨c1, Nat.le_trans k2 c2, fun b hb hn => (c3 b (by omega) hn).trans (k3 b hb id), fun b k hb hk => ?_, fun b k hb hk => ?_, fun b hb hn => (c6 b (by omega) hn).trans (k6 b hb id)⟩
  · rcases Nat.lt_or_ge b h'.size with h1 | h1
    · obtain ⟨k0, g1, g2⟩ := c5 b k h1 hk
      rw [g2]
      exact .inl ((k4 b k0 hb g1).resolve_right fun ⟨_, _, e, _⟩ => e)
    · rcases c4 b k h1 hk with g | ⟨y, k0, g1, g2, g3⟩
      · exact .inl (by omega)
      · exact .inr ⟨y, k0, g1, (k3 y (hd y g1) id) ▸ g2, g3⟩
  · obtain ⟨k0, g1, g2⟩ := c5 b k (by omega) hk
    exact ⟨k0, (k3 b hb id) ▸ g1, g2⟩
/-- One element more: it was laid as a row of one behind all there was. -/
theorem Own.append1 (H : Wf h) {B : Nat} (hB : B ≤ h.size) (O : Own P B h s v n cs) {t e : TypeId} {i : TypeInfo} (ht : P.underlying t = some (.slice e))
    (hi : P.info? e = some i) (hz : zeroFits i = true ∧ i.bytes = m ∧ i.size = s) (hs : 0 < s) (hm : 0 < m) {xs : List Value} (hx : xs.length = s) (hbig : (n + 1) * m ≤ 140737488355328) :
    ∃ v' h', aappend P (h.new e xs) t t v (.slice (some ⟨h.size, 0, none⟩) 1 2) = some (v', h') ∧ Own P B h' s v' (n + 1) (cs ++ xs) ∧ Ch (fun b => blkOf v = some b ∧ B ≤ b) h h' ∧ Reads h h' ∧
      v' = .slice (some ⟨h.size + 1, 0, none⟩) (n + 1) 0 ∧ ∃ k, h'.get (h.size + 1) = some k ∧ (h.size ≤ k.fam ∨ ∃ b k', blkOf v = some b ∧ B ≤ b ∧ h.get b = some k' ∧ k.fam = k'.fam) := by
  obtain ⟨hz, rfl, rfl⟩ := hz
  have K := Keeps.new H e xs
  have O1 := O.keeps K
  have hae : asz P e = some i.size := by simp [asz, hi]
  have hxn : anews (h.new e xs) i.size (.slice (some ⟨h.size, 0, none⟩) 1 2) = some (1, xs) := by
    simp only [anews, new_self]
    rw [if_pos (by simp [hx])]
    simp [← hx]
  obtain ⟨h', e1, O2, z, R, C, k, g1, g2, g3⟩ := O1.append (Ch.wf K) (by rw [new_size]; omega) ht ht rfl hi hz hm rfl hxn (by omega) (by omega) hbig
  rw [new_size] at e1 O2 g1
  refine ⟨_, h', e1, O2, K.ch C (fun b hb => (O.1.blk_lt hb.1).1), (K.reads H).trans R, rfl, k, g1, ?_⟩
  rcases g3 with g3 | ⟨b, k', q1, q2, q3, q4⟩
  · rw [new_size] at g3; exact .inl (by omega)
  · refine .inr ⟨b, k', q1, q2, ?_, q4⟩
    rw [← K.at (O.1.blk_lt q1).1]; exact q3
theorem Own.base {B B' : Nat} (O : Own P B h s v n cs) (hb : B' ≤ B) : Own P B' h s v n cs :=
  ⟨O.1, O.2.imp id (Or.imp id fun ⟨b, o, c, k, h1, h2, h3⟩ => ⟨b, o, c, k, h1, by omega, h3⟩)⟩
theorem Rd.one (R : Rd P h s v n cs) : one v = true := by
  obtain ⟨_, ⟨_, rfl | rfl⟩ | ⟨b, o, c, k, rfl, _⟩⟩ := R <;> rfl
theorem alloc_eq {tm : Tm} {e : TypeId} {z : Value} {m : Nat} (hz : azero P e = some z) (hs : asz P e = some m) (h1 : z.cells.all one = true) : aeff P tm h (.alloc e) = some (.pointer (some ⟨h.size, 0, none⟩), h.new e z.cells.toList) := by
  simp [aeff, hz, hs, h1]
end
end Go.Proofs.Ytgfccaaalkkdlaa.Am
