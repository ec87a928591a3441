/- The frame Am, a text beside the others: slices of structs, told of a list of things. Nothing of a program stands here. -/
import Derived.Test.YtgfccaaalkkdlaaAmKind3
set_option linter.unusedVariables false
set_option linter.unusedSimpArgs false
namespace Go.Proofs.Ytgfccaaalkkdlaa.Am
open Go Go.RowKit
section
variable {P : Program} {h h' : Heap} {s : Nat} {v : Value} {α : Type} {c : α → List Value} {l : List α}
theorem fm_len (hc : ∀ x, (c x).length = s) : (l.flatMap c).length = l.length * s := by
  induction l with
  | nil => simp
  | cons x l ih => simp only [List.flatMap_cons, List.length_append, hc, ih, List.length_cons, Nat.add_mul]; omega
theorem fm_at (hc : ∀ x, (c x).length = s) : ∀ {l : List α} {i j : Nat} {x : α}, l[i]? = some x → j < s → (l.flatMap c)[i * s + j]? = (c x)[j]?
  | [], i, j, x, h, _ => by simp at h
  | y :: l, 0, j, x, h, hj => by
    simp at h; subst h
    rw [List.flatMap_cons, List.getElem?_append_left (by rw [hc]; omega)]; simp
  | y :: l, i + 1, j, x, h, hj => by
    simp at h
    rw [List.flatMap_cons, List.getElem?_append_right (by rw [hc, Nat.add_mul]; omega), ← fm_at hc h hj]
    congr 1
    rw [hc, Nat.add_mul]; omega
theorem fm_take (hc : ∀ x, (c x).length = s) {m : Nat} (hm : m ≤ l.length) : (l.take m).flatMap c = (l.flatMap c).take (m * s) := by
  have h1 : l.flatMap c = (l.take m).flatMap c ++ (l.drop m).flatMap c := by rw [← List.flatMap_append, List.take_append_drop]
  have h2 : ((l.take m).flatMap c).length = m * s := by rw [fm_len hc, List.length_take, Nat.min_eq_left hm]
  rw [h1, List.take_append_of_le_length (by omega)]
  exact (List.take_of_length_le (by omega)).symm
theorem fm_drop (hc : ∀ x, (c x).length = s) {m : Nat} (hm : m ≤ l.length) : (l.drop m).flatMap c = (l.flatMap c).drop (m * s) := by
  have h1 : l.flatMap c = (l.take m).flatMap c ++ (l.drop m).flatMap c := by rw [← List.flatMap_append, List.take_append_drop]
  have h2 : ((l.take m).flatMap c).length = m * s := by rw [fm_len hc, List.length_take, Nat.min_eq_left hm]
  rw [h1]; exact (List.drop_left' h2).symm
theorem fm_chunk (hc : ∀ x, (c x).length = s) {i : Nat} {x : α} (hx : l[i]? = some x) : ((l.flatMap c).drop (i * s)).take s = c x := by
  refine List.ext_getElem? fun j => ?_
  rw [List.getElem?_take]
  split
  · rename_i hj
    rw [List.getElem?_drop, fm_at hc hx hj]
  · rename_i hj
    rw [List.getElem?_eq_none (by rw [hc]; omega)]
/-- A slice of structs that is read. -/
def RS (P : Program) (h : Heap) (s : Nat) (c : α → List Value) (v : Value) (l : List α) : Prop := Rd P h s v l.length (l.flatMap c)
theorem RS.keeps (R : RS P h s c v l) (K : Keeps h h') : RS P h' s c v l := Rd.keeps R K
theorem RS.len (R : RS P h s c v l) {t e : TypeId} (ht : P.underlying t = some (.slice e)) : abuiltin P .len #[t] #[v] = some (.int .i64 l.length) := Rd.len R ht
theorem RS.fld (R : RS P h s c v l) (hc : ∀ x, (c x).length = s) {t : TypeId} {d : TypeDesc} (ht : P.underlying t = some d) (hd : isAggD d = false) {i j : Nat} {x : α} (hx : l[i]? = some x) (hj : j < s) :
    aload P h t ⟨(eltA v s i).block, (eltA v s i).off + j, none⟩ = (c x)[j]? :=
  (Rd.at R ht hd (List.getElem?_eq_some_iff.1 hx).1 hj).trans (fm_at hc hx hj)
theorem RS.agg (R : RS P h s c v l) (hc : ∀ x, (c x).length = s) {t : TypeId} {d : TypeDesc} (ht : P.underlying t = some d) (hd : isAggD d = true) (hs : asz P t = some s) {i : Nat} {x : α} (hx : l[i]? = some x) :
    aload P h t (eltA v s i) = some (.agg (c x).toArray) := by
  have hi := (List.getElem?_eq_some_iff.1 hx).1
  obtain ⟨h1, h2⟩ := R
  have hch := fm_chunk hc hx
  have hle : (i + 1) * s ≤ l.length * s := Nat.mul_le_mul_right s hi
  rw [Nat.add_mul] at hle
  rcases h2 with ⟨e, _⟩ | ⟨b, o, cp, k, rfl, hlt, hk, hlv, ha, hol, hcc⟩
  · omega
  · have hle2 : o + i * s + s ≤ k.cells.length := by omega
    have hdd : ((k.cells.drop (o + i * s)).take s) = c x := by
      rw [← hch, ← hcc]
      refine List.ext_getElem? fun j => ?_
      simp only [List.getElem?_take, List.getElem?_drop]
      split
      · rw [if_pos (by omega)]; congr 1; omega
      · rfl
    simp only [aload, eltA, hk, hlv, if_true, ht, hd, hs, hle2, hdd]
theorem RS.part (R : RS P h s c v l) (hc : ∀ x, (c x).length = s) {L H : Nat} (h1 : L ≤ H) (h2 : H ≤ l.length) : RS P h s c (sliceV v s L H) ((l.drop L).take (H - L)) := by
  have := Rd.part R h1 h2
  unfold RS
  rw [List.length_take, List.length_drop, Nat.min_eq_left (by omega), fm_take hc (by rw [List.length_drop]; omega), fm_drop hc (by omega)]
  exact this
/-- A slice of structs that may grow. -/
def OS (P : Program) (B : Nat) (h : Heap) (s : Nat) (c : α → List Value) (v : Value) (l : List α) : Prop := Own P B h s v l.length (l.flatMap c)
theorem OS.rs {B : Nat} (O : OS P B h s c v l) : RS P h s c v l := O.1
theorem OS.nil {B : Nat} : OS P B h s c (.slice none 0 0) ([] : List α) := Own.nil0
theorem OS.keeps {B : Nat} (O : OS P B h s c v l) (K : Keeps h h') : OS P B h' s c v l := Own.keeps O K
theorem OS.append1 {B m : Nat} (H : Wf h) (hB : B ≤ h.size) (O : OS P B h s c v l) {t e : TypeId} {i : TypeInfo} (ht : P.underlying t = some (.slice e)) (hi : P.info? e = some i) (hz : zeroFits i = true ∧ i.bytes = m ∧ i.size = s) (hs : 0 < s) (hm : 0 < m)
    (x : α) (hx : (c x).length = s) (hbig : (l.length + 1) * m ≤ 140737488355328) :
    ∃ v' h', aappend P (h.new e (c x)) t t v (.slice (some ⟨h.size, 0, none⟩) 1 2) = some (v', h') ∧ OS P B h' s c v' (l ++ [x]) ∧ Ch (fun b => blkOf v = some b ∧ B ≤ b) h h' ∧ Reads h h' ∧ v' = .slice (some ⟨h.size + 1, 0, none⟩) (l.length + 1) 0 := by
  obtain ⟨v', h', e1, O', C, R, ev, _⟩ := Own.append1 H hB O ht hi hz hs hm (xs := c x) hx hbig
  refine ⟨v', h', e1, ?_, C, R, ev⟩
  unfold OS
  rw [List.length_append, List.flatMap_append]
  simpa using O'
/-- The same, and what the append alone leaves to be read. -/
theorem OS.append1D {B m : Nat} (H : Wf h) (hB : B ≤ h.size) (O : OS P B h s c v l) {t e : TypeId} {i : TypeInfo} (ht : P.underlying t = some (.slice e)) (hi : P.info? e = some i) (hz : zeroFits i = true ∧ i.bytes = m ∧ i.size = s) (hs : 0 < s) (hm : 0 < m)
    (x : α) (hx : (c x).length = s) (hbig : (l.length + 1) * m ≤ 140737488355328) :
    ∃ v' h', aappend P (h.new e (c x)) t t v (.slice (some ⟨h.size, 0, none⟩) 1 2) = some (v', h') ∧ OS P B h' s c v' (l ++ [x]) ∧ Ch (fun b => blkOf v = some b ∧ B ≤ b) h h' ∧ (Reads h (h.new e (c x)) ∧ Reads (h.new e (c x)) h') ∧ v' = .slice (some ⟨h.size + 1, 0, none⟩) (l.length + 1) 0 := by
  obtain ⟨v', h', e1, O', C, R, ev⟩ := O.append1 H hB ht hi hz hs hm x hx hbig
  refine ⟨v', h', e1, O', C, ⟨(Keeps.new H e (c x)).reads H, ?_⟩, ev⟩
  obtain ⟨hz0, rfl, rfl⟩ := hz
  have K := Keeps.new H e (c x)
  have hae : asz P e = some i.size := by simp [asz, hi]
  have X : Rd P (h.new e (c x)) i.size (.slice (some ⟨h.size, 0, none⟩) 1 2) 1 (c x) := Rd.new H hae (by rw [hx]; simp)
  obtain ⟨h2, e2, _, _, R2, _⟩ := Own.append (Ch.wf K) (Nat.le_trans hB (Ch.le K)) (Own.keeps O K) ht ht rfl hi hz0 hm rfl X.news (by decide) X.1 hbig
  rw [e1] at e2
  cases e2
  exact R2
theorem OS.appendRS {B m : Nat} (H : Wf h) (hB : B ≤ h.size) (O : OS P B h s c v l) {t e : TypeId} {i : TypeInfo} (ht : P.underlying t = some (.slice e)) (hi : P.info? e = some i) (hz : zeroFits i = true ∧ i.bytes = m ∧ i.size = s) (hm : 0 < m)
    {x : Value} {l2 : List α} (X : RS P h s c x l2) (hbig : (l.length + l2.length) * m ≤ 140737488355328) :
    ∃ v' h', aappend P h t t v x = some (v', h') ∧ OS P B h' s c v' (l ++ l2) ∧ Reads h h' ∧ Ch (fun y => blkOf v = some y ∧ B ≤ y) h h' ∧ (v' = v ∨ v' = .slice none 0 0 ∨ v' = .slice (some ⟨h.size, 0, none⟩) (l.length + l2.length) 0) := by
  obtain ⟨v', h', e1, O', R, C, hv⟩ := Own.appendRd H hB O ht ht rfl hi hz hm X hbig
  refine ⟨v', h', e1, ?_, R, C, hv⟩
  unfold OS
  rw [List.length_append, List.flatMap_append]
  exact O'
end
end Go.Proofs.Ytgfccaaalkkdlaa.Am
