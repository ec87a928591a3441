/- The frame Am, a text beside the others: rows that may be written or grown, whatever room lies behind them; what becomes of their memory's other rows. Nothing of a program stands here. -/
import Derived.Test.YtgfccaaalkkdlaaAmRecs
set_option linter.unusedVariables false
set_option linter.unusedSimpArgs false
namespace Go.Proofs.Ytgfccaaalkkdlaa.Am
open Go Go.RowKit
/-- What lies in a row's memory. -/
def FamV (h : Heap) (v : Value) (x : Nat) : Prop := ∃ b, blkOf v = some b ∧ FamOf h b x
/-- A row that is read, and may be written (it was not handed in). -/
def OwnR (P : Program) (h : Heap) (s : Nat) (v : Value) (n : Nat) (cs : List Value) : Prop :=
  Rd P h s v n cs ∧ ∀ b, blkOf v = some b → ∃ k, h.get b = some k ∧ k.ro = false
section
variable {P : Program} {h h' h'' : Heap} {s n m : Nat} {b : Nat} {cs : List Value} {D : Nat → Prop} {v : Value}
theorem OwnR.nil0 : OwnR P h s (.slice none 0 0) 0 [] := ⟨Rd.nil0, fun b e => by cases e⟩
theorem OwnR.keeps (O : OwnR P h s v n cs) (K : Keeps h h') : OwnR P h' s v n cs :=
  ⟨O.1.keeps K, fun b e => by
    obtain ⟨k, h1, h2⟩ := O.2 b e
    exact ⟨k, (K.at (O.1.blk_lt e).1).trans h1, h2⟩⟩
theorem Ch.ownR (C : Ch D h h') (O : OwnR P h s v n cs) (hd : ∀ b, blkOf v = some b → ¬ D b) : OwnR P h' s v n cs :=
  ⟨C.rd O.1 hd, fun b e => by
    obtain ⟨k, h1, h2⟩ := O.2 b e
    exact ⟨k, (C.at (O.1.blk_lt e).1 (hd b e)).trans h1, h2⟩⟩
theorem OwnR.part (O : OwnR P h s v n cs) {L H : Nat} (h1 : L ≤ H) (h2 : H ≤ n) : OwnR P h s (sliceV v s L H) (H - L) ((cs.drop (L * s)).take ((H - L) * s)) :=
  ⟨O.1.part h1 h2, fun b e => O.2 b (by rw [← sliceV_blk (s := s) (L := L) (H := H)]; exact e)⟩
theorem OwnR.new (H : Wf h) {e : TypeId} {c : Nat} {cells : List Value} (he : asz P e = some s) (hl : cells.length = m * s) : OwnR P (h.new e cells) s (.slice (some ⟨h.size, 0, none⟩) m c) m cells :=
  ⟨Rd.new H he hl, fun b e => by cases e; exact ⟨_, new_self, rfl⟩⟩
theorem over_drop_take {xs vs : List Value} {o i N : Nat} (hi : i + vs.length ≤ N) (hN : o + N ≤ xs.length) : ((over xs (o + i) vs).drop o).take N = over ((xs.drop o).take N) i vs := by
  refine List.ext_getElem? fun j => ?_
  rw [List.getElem?_take]
  have hl : i + vs.length ≤ ((xs.drop o).take N).length := by simp only [List.length_take, List.length_drop]; omega
  rw [over_get hl]
  split
  · rename_i hj
    rw [List.getElem?_drop, over_get (by omega)]
    by_cases h1 : i ≤ j ∧ j < i + vs.length
    · rw [if_pos (by omega), if_pos h1]; congr 1; omega
    · rw [if_neg (by omega), if_neg h1, List.getElem?_take, if_pos hj, List.getElem?_drop]
  · rename_i hj
    rw [if_neg (by omega), List.getElem?_eq_none]
    simp only [List.length_take, List.length_drop]; omega
/-- Cells written over a row's. -/
theorem OwnR.put (H : Wf h) (O : OwnR P h s v n cs) {i : Nat} {vs : List Value} {a : Addr} (ha : ∃ a0 c, v = .slice (some a0) n c ∧ a = ⟨a0.block, a0.off + i, none⟩) (hi : i + vs.length ≤ n * s) (h1 : vs.all one = true) :
    ∃ h', aover h a vs = some h' ∧ OwnR P h' s v n (over cs i vs) ∧ Ch (FamV h v) h h' ∧ h'.size = h.size ∧ (∀ b k, h.get b = some k → ∃ k', h'.get b = some k' ∧ k'.fam = k.fam) ∧ h'.obj = h.obj := by
  obtain ⟨a0, c0, rfl, rfl⟩ := ha
  obtain ⟨⟨hlen, h2⟩, h3⟩ := O
  rcases h2 with ⟨_, h | h⟩ | ⟨b, o, c, k, e, hlt, hk, hlv, ha, ho, hc⟩
  · cases h
  · cases h
  · cases e
    obtain ⟨k', g1, g2⟩ := h3 b rfl
    rw [hk] at g1; cases g1
    have hself : (h.store b k (o + i) vs).get b = some { k with cells := over k.cells (o + i) vs } := Heap.put_self
    have hol : (over k.cells (o + i) vs).length = k.cells.length := over_length (by omega)
    refine ⟨h.store b k (o + i) vs, ?_, ⟨⟨?_, .inr ⟨b, o, c0, _, rfl, hlt, hself, hlv, ha, by rw [hol]; exact ho, ?_⟩⟩, fun x e => by cases e; exact ⟨_, hself, g2⟩⟩, (store_ch H hk).mono fun x hx => ⟨b, rfl, hx⟩, rfl, fun x kx hx => ?_, rfl⟩
    · simp only [aover, hk]; rw [if_pos ⟨hlv, g2, by omega, h1⟩]
    · rw [over_length (by omega)]; exact hlen
    · rw [over_drop_take hi ho, hc]
    · by_cases e : x = b
      · subst e; rw [hk] at hx; cases hx; exact ⟨_, hself, rfl⟩
      · refine ⟨Blk.killed k.fam kx, ?_, killed_fam⟩
        show (h.store b k (o + i) vs).get x = _
        simp only [Heap.store]; rw [Heap.put_ne e, kill_get, hx]; rfl
theorem storeV_over {t : TypeId} {a : Addr} {w : Value} (ht : asz P t = some w.cells.size) : storeV P h t (.pointer (some a)) w = (aover h a w.cells.toList).map fun h' => (undef, h') := by
  simp only [storeV, astore, aover]
  cases h.get a.block with
  | none => rfl
  | some k =>
    simp only [ht, true_and, Array.length_toList, Array.all_toList]
    by_cases hc : k.live = true ∧ k.ro = false ∧ a.off + w.cells.size ≤ k.cells.length ∧ w.cells.all one = true
    · rw [if_pos hc]; rfl
    · rw [if_neg hc]; rfl
/-- An element of a row that is written. -/
theorem OwnR.storeA (H : Wf h) (O : OwnR P h s v n cs) {t : TypeId} {w : Value} {i : Nat} (ht : asz P t = some s) (hw : w.cells.size = s) (h1 : w.cells.all one = true) (hi : i < n) :
    ∃ h', storeV P h t (.pointer (some (eltA v s i))) w = some (undef, h') ∧ OwnR P h' s v n (over cs (i * s) w.cells.toList) ∧ Ch (FamV h v) h h' ∧ h'.size = h.size ∧ (∀ b k, h.get b = some k → ∃ k', h'.get b = some k' ∧ k'.fam = k.fam) ∧ h'.obj = h.obj := by
  have hv : ∃ a0 c, v = .slice (some a0) n c := by
    obtain ⟨⟨_, ⟨h0, _⟩ | ⟨b, o, c, k, e, _⟩⟩, _⟩ := O
    · omega
    · exact ⟨_, _, e⟩
  obtain ⟨a0, c, rfl⟩ := hv
  have hin : i * s + s ≤ n * s := by
    have : (i + 1) * s ≤ n * s := Nat.mul_le_mul_right s (by omega)
    rw [Nat.add_mul] at this; omega
  obtain ⟨h', e1, e2⟩ := O.put H (i := i * s) (vs := w.cells.toList) (a := eltA (.slice (some a0) n c) s i) ⟨a0, c, rfl, rfl⟩ (by simp only [Array.length_toList, hw]; exact hin) (by rw [Array.all_toList]; exact h1)
  refine ⟨h', ?_, e2⟩
  rw [storeV_over (by rw [hw]; exact ht), e1]; rfl
theorem grow_ch (H : Wf h) {k : Blk} (hk : h.get b = some k) {o c : Nat} {news : List Value} : Ch (FamOf h b) h (h.grow b k o c news) ∧ (h.grow b k o c news).get h.size = some ⟨(k.cells.drop o).take c ++ news, k.elem, k.fam, true, true, false⟩ ∧ (h.grow b k o c news).size = h.size + 1 := by
  have hb := H.lt hk
  have hf := H.2 b k hk
  unfold Heap.grow
  by_cases ht : k.tail = true ∧ o + c = k.cells.length
  · rw [if_pos ht]
    have hwf : Wf ((h.put b { k with tail := false }).push ⟨(k.cells.drop o).take c ++ news, k.elem, k.fam, true, true, false⟩) := Wf.push (Wf.put (k := { k with tail := false }) H hk rfl) (by show k.fam ≤ h.size; omega)
    have hne : ∀ x, x < h.size → x ≠ b → ((h.put b { k with tail := false }).push ⟨(k.cells.drop o).take c ++ news, k.elem, k.fam, true, true, false⟩).get x = h.get x := fun x hx hxb => by
      rw [Heap.push_ne (by show x ≠ h.size; omega), Heap.put_ne hxb]
    have hself : ((h.put b { k with tail := false }).push ⟨(k.cells.drop o).take c ++ news, k.elem, k.fam, true, true, false⟩).get h.size = some ⟨(k.cells.drop o).take c ++ news, k.elem, k.fam, true, true, false⟩ := Heap.push_self
    refine ⟨⟨hwf, Nat.le_succ _, fun x hx hd => hne x hx fun e => hd (by subst e; exact ⟨k, k, hk, hk, rfl⟩), fun x kx hx hkx => .inr ?_, fun x kx hx hkx => ?_, fun _ _ _ => rfl⟩, hself, rfl⟩
    · have h1 : x < h.size + 1 := hwf.lt hkx
      have hxe : x = h.size := by omega
      subst hxe
      rw [hself] at hkx; cases hkx
      exact ⟨b, k, ⟨k, k, hk, hk, rfl⟩, hk, rfl⟩
    · by_cases e : x = b
      · subst e
        rw [Heap.push_ne (by show x ≠ h.size; omega), Heap.put_self] at hkx; cases hkx
        exact ⟨k, hk, rfl⟩
      · rw [hne x hx e] at hkx; exact ⟨kx, hkx, rfl⟩
  · rw [if_neg ht]
    have hwf : Wf ((h.kill k.fam).push ⟨(k.cells.drop o).take c ++ news, k.elem, k.fam, true, true, false⟩) := Wf.push (Wf.kill H k.fam) (by show k.fam ≤ h.size; omega)
    have hne : ∀ x, x < h.size → ((h.kill k.fam).push ⟨(k.cells.drop o).take c ++ news, k.elem, k.fam, true, true, false⟩).get x = (h.get x).map (Blk.killed k.fam) := fun x hx => by
      rw [Heap.push_ne (by show x ≠ h.size; omega), kill_get]
    have hself : ((h.kill k.fam).push ⟨(k.cells.drop o).take c ++ news, k.elem, k.fam, true, true, false⟩).get h.size = some ⟨(k.cells.drop o).take c ++ news, k.elem, k.fam, true, true, false⟩ := Heap.push_self
    refine ⟨⟨hwf, Nat.le_succ _, fun x hx hd => ?_, fun x kx hx hkx => .inr ?_, fun x kx hx hkx => ?_, fun _ _ _ => rfl⟩, hself, rfl⟩
    · rw [hne x hx]
      cases hg : h.get x with
      | none => rfl
      | some k' => simp only [Option.map_some]; rw [killed_ne fun e => hd ⟨k', k, hg, hk, e⟩]
    · have h1 : x < h.size + 1 := hwf.lt hkx
      have hxe : x = h.size := by omega
      subst hxe
      rw [hself] at hkx; cases hkx
      exact ⟨b, k, ⟨k, k, hk, hk, rfl⟩, hk, rfl⟩
    · rw [hne x hx, Option.map_eq_some_iff] at hkx
      obtain ⟨k0, g1, rfl⟩ := hkx
      exact ⟨k0, g1, killed_fam⟩
/-- An append to a row, wherever it ends in its memory. -/
theorem OwnR.append (H : Wf h) (O : OwnR P h s v n cs) {t t2 e : TypeId} {d2 : TypeDesc} {i : TypeInfo} (ht : P.underlying t = some (.slice e)) (ht2 : P.underlying t2 = some d2) (hd2 : isRowD d2 = true)
    (hi : P.info? e = some i) (hz : zeroFits i = true) (hb : 0 < i.bytes) (hs : i.size = s) {x : Value} {m : Nat} {news : List Value} (hx : anews h s x = some (m, news)) (hm : 0 < m) (hnl : news.length = m * s) (hbig : (n + m) * i.bytes ≤ 140737488355328) :
    ∃ h', aappend P h t t2 v x = some (.slice (some ⟨h.size, 0, none⟩) (n + m) 0, h') ∧ OwnR P h' s (.slice (some ⟨h.size, 0, none⟩) (n + m) 0) (n + m) (cs ++ news) ∧ h'.size = h.size + 1 ∧ Ch (FamV h v) h h' ∧
      (∃ k, h'.get h.size = some k ∧ k.ro = false ∧ (k.fam = h.size ∨ ∃ b k', blkOf v = some b ∧ h.get b = some k' ∧ k.fam = k'.fam)) ∧ Own P h.size h' s (.slice (some ⟨h.size, 0, none⟩) (n + m) 0) (n + m) (cs ++ news) := by
  have hm0 : m ≠ 0 := by omega
  have hae : asz P e = some s := by simp [asz, hi, hs]
  obtain ⟨⟨h1, h2⟩, h3⟩ := O
  have hlen : (cs ++ news).length = (n + m) * s := by simp [h1, hnl, Nat.add_mul]
  rcases h2 with ⟨rfl, hv⟩ | ⟨b, o, c, k, rfl, hlt, hk, hlv, ha, ho, hc⟩
  · have hcs : cs = [] := by simpa using h1
    subst hcs
    simp only [Nat.zero_add, List.nil_append] at hbig ⊢
    refine ⟨h.new e news, ?_, OwnR.new H hae hnl, rfl, Ch.mono (Keeps.new H e news) (fun _ e => e.elim), ⟨_, new_self, rfl, .inl rfl⟩, Own.new H (Nat.le_refl _) hae hnl⟩
    rcases hv with rfl | rfl <;> simp [aappend, ht, ht2, hi, hd2, hb, hz, hs, hx, hm0, hbig]
  · obtain ⟨k', g1, g2⟩ := h3 b rfl
    rw [hk] at g1; cases g1
    by_cases hex : c = n + 1
    · refine ⟨h.new e ((k.cells.drop o).take (n * s) ++ news), ?_, ?_, rfl, Ch.mono (Keeps.new H e _) (fun _ e => e.elim), ⟨_, new_self, rfl, .inl rfl⟩, ?_⟩
      · simp only [aappend, ht, ht2, hi, hd2, hb, hz, hs, hx, hm0, if_false, hk, hlv, ho, ha, hbig, hex, if_true, true_and, and_self]
      · rw [hc]; exact OwnR.new H hae hlen
      · rw [hc]; exact Own.new H (Nat.le_refl _) hae hlen
    · obtain ⟨C, q1, q2⟩ := grow_ch H hk (o := o) (c := n * s) (news := news)
      have hrd : Rd P (h.grow b k o (n * s) news) s (.slice (some ⟨h.size, 0, none⟩) (n + m) 0) (n + m) (cs ++ news) := ⟨hlen, .inr ⟨h.size, 0, 0, _, rfl, by rw [q2]; exact Nat.lt_succ_self _, q1, rfl, ha, by rw [hc]; simp only [hlen]; omega, by rw [hc, List.drop_zero, ← hlen]; exact List.take_length⟩⟩
      refine ⟨h.grow b k o (n * s) news, ?_, ⟨hrd, fun x e => by cases e; exact ⟨_, q1, rfl⟩⟩, q2, C.mono fun x hx => ⟨b, rfl, hx⟩, ⟨_, q1, rfl, .inr ⟨b, k, rfl, hk, rfl⟩⟩, hrd, .inr (.inr ⟨h.size, 0, 0, _, rfl, Nat.le_refl _, q1, rfl, rfl, by rw [hc]; simp only [hlen]; omega, by rw [q2]; exact Nat.lt_succ_self _⟩)⟩
      simp only [aappend, ht, ht2, hi, hd2, hb, hz, hs, hx, hm0, if_false, hk, hlv, ho, ha, hbig, hex, g2, if_true, true_and, and_self]
theorem OwnR.append1 (H : Wf h) (O : OwnR P h s v n cs) {t e : TypeId} {i : TypeInfo} (ht : P.underlying t = some (.slice e))
    (hi : P.info? e = some i) (hz : zeroFits i = true ∧ i.bytes = m ∧ i.size = s) (hm : 0 < m) {xs : List Value} (hx : xs.length = s) (hbig : (n + 1) * m ≤ 140737488355328) :
    ∃ h', aappend P (h.new e xs) t t v (.slice (some ⟨h.size, 0, none⟩) 1 2) = some (.slice (some ⟨h.size + 1, 0, none⟩) (n + 1) 0, h') ∧ OwnR P h' s (.slice (some ⟨h.size + 1, 0, none⟩) (n + 1) 0) (n + 1) (cs ++ xs) ∧ h'.size = h.size + 2 ∧ Ch (FamV h v) h h' ∧
      (∃ k, h'.get (h.size + 1) = some k ∧ k.ro = false ∧ (k.fam = h.size + 1 ∨ ∃ b k', blkOf v = some b ∧ h.get b = some k' ∧ k.fam = k'.fam)) ∧ Own P (h.size + 1) h' s (.slice (some ⟨h.size + 1, 0, none⟩) (n + 1) 0) (n + 1) (cs ++ xs) := by
  obtain ⟨hz, rfl, rfl⟩ := hz
  have K := Keeps.new H e xs
  have O1 := O.keeps K
  have hae : asz P e = some i.size := by simp [asz, hi]
  have hxn : anews (h.new e xs) i.size (.slice (some ⟨h.size, 0, none⟩) 1 2) = some (1, xs) := by
    simp only [anews, new_self]
    rw [if_pos (by simp [hx])]
    simp [← hx]
  obtain ⟨h', e1, O2, z, C, ⟨k, g1, g2, g3⟩, OO⟩ := O1.append (Ch.wf K) ht ht rfl hi hz hm rfl hxn (by omega) (by omega) hbig
  rw [new_size] at e1 O2 g1 z g3 OO
  refine ⟨h', e1, O2, z, ?_, ⟨k, g1, g2, g3.imp id fun ⟨b, k', q1, q2, q3⟩ => ⟨b, k', q1, (K.at (O.1.blk_lt q1).1).symm.trans q2, q3⟩⟩, OO⟩
  refine K.ch (C.mono (D' := FamV h v) ?_) ?_
  · rintro x ⟨b, hb, k1, k2, q1, q2, q3⟩
    have hbl := (O.1.blk_lt hb).1
    rw [K.at hbl] at q2
    refine ⟨b, hb, k1, k2, ?_, q2, q3⟩
    have hxl : x < h.size := by
      rcases Nat.lt_or_ge x h.size with g | g
      · exact g
      · have hxe : x = h.size := by have := (Ch.wf K).lt q1; rw [new_size] at this; omega
        subst hxe
        rw [new_self] at q1; cases q1
        have := H.2 b k2 q2
        simp only at q3; omega
    rw [← K.at hxl]; exact q1
  · rintro x ⟨b, hb, k1, k2, q1, q2, q3⟩; exact H.lt q1
theorem Rd.cell {P : Program} {h : Heap} {s n : Nat} {v : Value} {cs : List Value} (R : Rd P h s v n cs) (h0 : 0 < n) : ∃ a c, v = .slice (some a) n c := by
  obtain ⟨_, ⟨q, _⟩ | ⟨b, o, c, k, e, _⟩⟩ := R
  · omega
  · exact ⟨_, _, e⟩
/-- A row's end that is wiped. -/
theorem OwnR.clear (H : Wf h) (O : OwnR P h s v n cs) {t e : TypeId} {z : Value} (ht : P.underlying t = some (.slice e)) (hz : azero P e = some z) (hzs : z.cells.size = s) (hz1 : z.cells.all one = true) {i : Nat} (hi : i ≤ n) :
    ∃ h' cs', aclear P h t (sliceV v s i n) = some (undef, h') ∧ OwnR P h' s v n cs' ∧ cs'.take (i * s) = cs.take (i * s) ∧ Ch (FamV h v) h h' ∧ h'.size = h.size ∧ (∀ b k, h.get b = some k → ∃ k', h'.get b = some k' ∧ k'.fam = k.fam) ∧ h'.obj = h.obj := by
  have triv : ∃ h' cs', some (undef, h) = some (undef, h') ∧ OwnR P h' s v n cs' ∧ cs'.take (i * s) = cs.take (i * s) ∧ Ch (FamV h v) h h' ∧ h'.size = h.size ∧ (∀ b k, h.get b = some k → ∃ k', h'.get b = some k' ∧ k'.fam = k.fam) ∧ h'.obj = h.obj :=
    ⟨h, cs, rfl, O, rfl, Ch.mono (Keeps.refl H) (fun _ e => e.elim), rfl, fun b k hk => ⟨k, hk, rfl⟩, rfl⟩
  by_cases hn : n = 0
  · subst hn
    obtain rfl : i = 0 := by omega
    obtain ⟨⟨_, ⟨_, rfl | rfl⟩ | ⟨b, o, c, k, rfl, _⟩⟩, _⟩ := O
    · simpa [aclear, ht, sliceV] using triv
    · simpa [aclear, ht, sliceV] using triv
    · simpa [aclear, ht, sliceV] using triv
  · obtain ⟨a, c, rfl⟩ := O.1.cell (by omega)
    by_cases hin : i = n
    · subst hin
      simpa [aclear, ht, sliceV] using triv
    · have hlen := O.1.1
      have hzl : (Builtin.zeroCells z.cells (n - i)).size = (n - i) * s := by rw [zeros_size, hzs]
      have hmul : i * s + (n - i) * s = n * s := by rw [← Nat.add_mul]; congr 1; omega
      have hall : (Builtin.zeroCells z.cells (n - i)).toList.all one = true := by
        rw [Array.all_toList, Array.all_eq_true']
        intro x hx
        simp only [Builtin.zeroCells, Array.mem_map, Array.mem_range] at hx
        obtain ⟨q, hq, rfl⟩ := hx
        have hpos : 0 < z.cells.size := by
          rcases Nat.eq_zero_or_pos z.cells.size with h | h
          · rw [h] at hq; simp at hq
          · exact h
        rw [getElem!_pos z.cells _ (Nat.mod_lt q hpos)]
        exact (Array.all_eq_true'.1 hz1) _ (Array.getElem_mem _)
      obtain ⟨h', e1, e2, e3⟩ := O.put H (i := i * s) (vs := (Builtin.zeroCells z.cells (n - i)).toList) (a := ⟨a.block, a.off + i * s, none⟩) ⟨a, c, rfl, rfl⟩ (by rw [Array.length_toList, hzl]; omega) hall
      refine ⟨h', _, ?_, e2, ?_, e3⟩
      · simp only [aclear, ht, sliceV]
        rw [if_neg (by omega)]
        simp only [hz, e1]
      · simp only [over]
        rw [List.append_assoc, List.take_append_of_le_length (by simp; omega), List.take_of_length_le (by simp; omega)]
theorem FamV.back (C : Ch D h h') (hlt : ∀ b, blkOf v = some b → b < h.size) {x : Nat} (F : FamV h' v x) : h.size ≤ x ∨ FamV h v x := by
  obtain ⟨b, hb, k1, k2, g1, g2, g3⟩ := F
  rcases Nat.lt_or_ge x h.size with hx | hx
  · obtain ⟨q1, e1, f1⟩ := C.2.2.2.2.1 x k1 hx g1
    obtain ⟨q2, e2, f2⟩ := C.2.2.2.2.1 b k2 (hlt b hb) g2
    exact .inr ⟨b, hb, q1, q2, e1, e2, by rw [← f1, ← f2]; exact g3⟩
  · exact .inl hx
theorem Var.notFam {b : Nat} {cs : List Value} (V : Var h b cs) (hne : blkOf v ≠ some b) : ¬ FamV h v b := by
  rintro ⟨b', hb, k1, k2, g1, g2, g3⟩
  obtain ⟨k, q1, _, _, _, q5, q6⟩ := V
  rw [g1] at q1; cases q1
  by_cases e : b' = b
  · subst e; exact hne hb
  · exact q6 b' k2 e g2 (by rw [← g3, q5])
theorem fm_over {α : Type} {c : α → List Value} (hc : ∀ x, (c x).length = s) {l : List α} {i : Nat} {x : α} (hi : i < l.length) : over (l.flatMap c) (i * s) (c x) = (l.set i x).flatMap c := by
  have hd : i < l.length := hi
  have e1 : l = l.take i ++ l[i] :: l.drop (i + 1) := by rw [← List.drop_eq_getElem_cons hi, List.take_append_drop]
  have hl : (l.take i).length = i := by rw [List.length_take]; omega
  have hA : ((l.take i).flatMap c).length = i * s := by rw [fm_len hc, hl]
  have e2 : l.set i x = l.take i ++ x :: l.drop (i + 1) := by
    conv => lhs; rw [e1]
    rw [List.set_append_right _ _ (by omega), hl, Nat.sub_self]; rfl
  rw [e2]
  conv => lhs; rw [e1]
  simp only [List.flatMap_append, List.flatMap_cons, over]
  rw [List.take_append_of_le_length (by omega), List.take_of_length_le (by omega), hc]
  rw [← hA, ← List.append_assoc ((l.take i).flatMap c) (c l[i]), List.drop_append, List.drop_of_length_le (by simp [hc]), List.length_append, hc]
  simp
end
end Go.Proofs.Ytgfccaaalkkdlaa.Am
