/- The frame Am, a text beside the others: what a call leaves as it was; slices that are read; rows that are the call's own and grow. Nothing of a program stands here. -/
import Derived.Test.YtgfccaaalkkdlaaAmTac2
set_option linter.unusedVariables false
set_option linter.unusedSimpArgs false
namespace Go.Proofs.Ytgfccaaalkkdlaa.Am
open Go Go.RowKit

def Wf (h : Heap) : Prop := (∀ b, h.size ≤ b → h.get b = none) ∧ ∀ b k, h.get b = some k → k.fam ≤ b
/-- What may have changed is told by D; what is new has memory of its own or of blocks told by D. -/
def Ch (D : Nat → Prop) (h h' : Heap) : Prop :=
  Wf h' ∧ h.size ≤ h'.size ∧ (∀ b, b < h.size → ¬ D b → h'.get b = h.get b) ∧
  (∀ b k, h.size ≤ b → h'.get b = some k → h.size ≤ k.fam ∨ ∃ y k0, D y ∧ h.get y = some k0 ∧ k.fam = k0.fam) ∧
  (∀ b k', b < h.size → h'.get b = some k' → ∃ k, h.get b = some k ∧ k'.fam = k.fam) ∧
  (∀ b, b < h.size → ¬ D b → h'.obj b = h.obj b)
/-- All that was there is as it was. -/
def Keeps (h h' : Heap) : Prop := Ch (fun _ => False) h h'
section
variable {P : Program} {h h' h'' : Heap} {n : Nat} {tm : Tm}
theorem Wf.lt (H : Wf h) {b k} (hk : h.get b = some k) : b < h.size := by
  rcases Nat.lt_or_ge b h.size with h1 | h1
  · exact h1
  · rw [H.1 b h1] at hk; cases hk
variable {D D' : Nat → Prop}
theorem Ch.wf (C : Ch D h h') : Wf h' := C.1
theorem Ch.le (C : Ch D h h') : h.size ≤ h'.size := C.2.1
theorem Ch.at (C : Ch D h h') {b : Nat} (hb : b < h.size) (hd : ¬ D b) : h'.get b = h.get b := C.2.2.1 b hb hd
theorem Ch.obj (C : Ch D h h') {b : Nat} (hb : b < h.size) (hd : ¬ D b) : h'.obj b = h.obj b := C.2.2.2.2.2 b hb hd
theorem Keeps.obj (C : Keeps h h') {b : Nat} (hb : b < h.size) : h'.obj b = h.obj b := C.2.2.2.2.2 b hb id
theorem Keeps.at (C : Keeps h h') {b : Nat} (hb : b < h.size) : h'.get b = h.get b := C.2.2.1 b hb id
theorem Ch.mono (C : Ch D h h') (hd : ∀ b, D b → D' b) : Ch D' h h' := by
  obtain ⟨c1, c2, c3, c4, c5, c6⟩ := C
  refine ⟨c1, c2, fun b hb h1 => c3 b hb fun h2 => h1 (hd b h2), fun b k hb hk => (c4 b k hb hk).imp id ?_, c5, fun b hb h1 => c6 b hb fun h2 => h1 (hd b h2)⟩
  rintro ⟨y, k0, h1, h2, h3⟩
  exact ⟨y, k0, hd y h1, h2, h3⟩
theorem Keeps.refl (H : Wf h) : Keeps h h := ⟨H, Nat.le_refl _, fun _ _ _ => rfl, fun b k hb hk => (by rw [H.1 b hb] at hk; cases hk), fun b k _ hk => ⟨k, hk, rfl⟩, fun _ _ _ => rfl⟩
/-- What a part of a body changes, told of the whole: all of it is the body's own. -/
theorem Keeps.step (H : Keeps h h') (C : Ch D h' h'') (hd : ∀ b, D b → h.size ≤ b) : Keeps h h'' := by
  obtain ⟨c1, c2, c3, c4, c5, c6⟩ := C
  obtain ⟨k1, k2, k3, k4, k5, k6⟩ := H
  refine ⟨c1, Nat.le_trans k2 c2, fun b hb _ => (c3 b (by omega) fun h1 => by have := hd b h1; omega).trans (k3 b hb id), fun b k hb hk => .inl ?_, fun b k hb hk => ?_, fun b hb _ => (c6 b (by omega) fun h1 => by have := hd b h1; omega).trans (k6 b hb id)⟩
  · rcases Nat.lt_or_ge b h'.size with h1 | h1
    · obtain ⟨k0, g1, g2⟩ := c5 b k h1 hk
      rw [g2]
      exact (k4 b k0 hb g1).resolve_right fun ⟨_, _, e, _⟩ => e
    · rcases c4 b k h1 hk with g | ⟨y, k0, g1, g2, g3⟩
      · omega
      · rw [g3]
        exact (k4 y k0 (hd y g1) g2).resolve_right fun ⟨_, _, e, _⟩ => e
  · obtain ⟨k0, g1, g2⟩ := c5 b k (by omega) hk
    obtain ⟨k9, g3, g4⟩ := k5 b k0 hb g1
    exact ⟨k9, g3, g2.trans g4⟩
theorem Keeps.trans (H : Keeps h h') (K : Keeps h' h'') : Keeps h h'' := H.step K fun _ e => e.elim
theorem Keeps.reads (H : Wf h) (K : Keeps h h') : Reads h h' := fun b k hk => ⟨k, (K.at (H.lt hk)).trans hk, rfl, rfl, id⟩
theorem Wf.push (H : Wf h) {k : Blk} (hk : k.fam ≤ h.size) : Wf (h.push k) := by
  refine ⟨fun b hb => ?_, fun b k' hb => ?_⟩
  · have : h.size + 1 ≤ b := hb
    rw [Heap.push_ne (by omega)]; exact H.1 b (by omega)
  · by_cases e : b = h.size
    · subst e; rw [Heap.push_self] at hb; cases hb; exact hk
    · rw [Heap.push_ne e] at hb; exact H.2 b k' hb
theorem Wf.put (H : Wf h) {b : Nat} {k k0 : Blk} (hb : h.get b = some k0) (hf : k.fam = k0.fam) : Wf (h.put b k) := by
  refine ⟨fun x hx => ?_, fun x k' hx => ?_⟩
  · have : h.size ≤ x := hx
    have := H.lt hb
    rw [Heap.put_ne (by omega)]; exact H.1 x hx
  · by_cases e : x = b
    · subst e; rw [Heap.put_self] at hx; cases hx; rw [hf]; exact H.2 x k0 hb
    · rw [Heap.put_ne e] at hx; exact H.2 x k' hx
theorem kill_get {f x : Nat} : (h.kill f).get x = (h.get x).map (Blk.killed f) := rfl
theorem killed_fam {f : Nat} {k : Blk} : (Blk.killed f k).fam = k.fam := by unfold Blk.killed; split <;> rfl
theorem killed_ne {f : Nat} {k : Blk} (hf : k.fam ≠ f) : Blk.killed f k = k := by unfold Blk.killed; rw [if_neg (fun e => hf e.1)]
theorem Wf.kill (H : Wf h) (f : Nat) : Wf (h.kill f) := by
  refine ⟨fun x hx => ?_, fun x k hx => ?_⟩
  · rw [kill_get, H.1 x hx]; rfl
  · rw [kill_get, Option.map_eq_some_iff] at hx
    obtain ⟨k0, h1, rfl⟩ := hx
    rw [killed_fam]; exact H.2 x k0 h1
theorem Keeps.new (H : Wf h) (e : TypeId) (cs : List Value) : Keeps h (h.new e cs) := by
  refine ⟨H.push (Nat.le_refl _), Nat.le_succ _, fun b hb _ => Heap.push_ne (by omega), fun b k hb hk => .inl ?_, fun b k hb hk => ?_, fun _ _ _ => rfl⟩
  · by_cases eb : b = h.size
    · subst eb
      have : (h.new e cs).get h.size = some ⟨cs, e, h.size, true, true, false⟩ := Heap.push_self
      rw [this] at hk; cases hk; exact Nat.le_refl _
    · have : (h.new e cs).get b = h.get b := Heap.push_ne eb
      rw [this, H.1 b hb] at hk; cases hk
  · have : (h.new e cs).get b = h.get b := Heap.push_ne (by omega)
    exact ⟨k, this ▸ hk, rfl⟩
theorem new_self {e : TypeId} {cs : List Value} : (h.new e cs).get h.size = some ⟨cs, e, h.size, true, true, false⟩ := Heap.push_self
theorem new_size {e : TypeId} {cs : List Value} : (h.new e cs).size = h.size + 1 := rfl

/-- A contract's proof may lean on the heap's order. -/
theorem ACallsX.wf {f : FuncId} {args : Array Value} {Qr Qp : Value → Heap → Prop} (H : Wf h → ACallsX P f args h Qr Qp) : ACallsX P f args h Qr Qp :=
  fun w0 ρ w args' hr ha => H ⟨hr.dom, hr.fam⟩ w0 ρ w args' hr ha
theorem acallsX_of_W' {f : FuncId} {fn : Func} {c : Code} {args : Array Value} {Qr Qp : Value → Heap → Prop} (hf : P.funcs[f]? = some fn) (hb : fn.body = some c) (hok : codeOk P fn.ntmps c = true)
    (hr : resOk fn.ntmps fn.results = true) (hsz : args.size ≤ fn.ntmps) (hw : Wf h → W P fn.ntmps c (retK P fn.results Qr Qp) (atm args) h) : ACallsX P f args h Qr Qp := ACallsX.wf fun H => acallsX_of_W hf hb hok hr hsz (hw H)
theorem acalls_of_W' {f : FuncId} {fn : Func} {c : Code} {args : Array Value} {Qr : Value → Heap → Prop} (hf : P.funcs[f]? = some fn) (hb : fn.body = some c) (hok : codeOk P fn.ntmps c = true)
    (hr : resOk fn.ntmps fn.results = true) (hsz : args.size ≤ fn.ntmps) (hw : Wf h → W P fn.ntmps c (retK P fn.results Qr (fun _ _ => False)) (atm args) h) : ACalls P f args h Qr := acallsX_of_W' hf hb hok hr hsz hw

/-- A slice of n elements of s cells each, these cells. -/
def Rd (P : Program) (h : Heap) (s : Nat) (v : Value) (n : Nat) (cs : List Value) : Prop :=
  cs.length = n * s ∧ ((n = 0 ∧ (v = .slice none 0 0 ∨ v = .slice none 0 1)) ∨
    ∃ b o c k, v = .slice (some ⟨b, o, none⟩) n c ∧ b < h.size ∧ h.get b = some k ∧ k.live = true ∧ asz P k.elem = some s ∧ o + n * s ≤ k.cells.length ∧ (k.cells.drop o).take (n * s) = cs)
/-- A slice of numbers. -/
def RdI (P : Program) (h : Heap) (k : IntKind) (v : Value) (xs : List Int) : Prop := Rd P h 1 v xs.length (xs.map (Value.int k))
/-- The place of an element. -/
def eltA (v : Value) (s i : Nat) : Addr :=
  match v with
  | .slice (some a) _ _ => ⟨a.block, a.off + i * s, none⟩
  | _ => ⟨0, 0, none⟩
def blkOf (v : Value) : Option Nat :=
  match v with
  | .slice (some a) _ _ => some a.block
  | _ => none
variable {s : Nat} {v : Value} {cs : List Value} {k : IntKind} {xs : List Int}
theorem Rd.reads (R : Rd P h s v n cs) (hs : h.size ≤ h'.size) (K : Reads h h') : Rd P h' s v n cs := by
  obtain ⟨h1, h2⟩ := R
  refine ⟨h1, h2.imp id ?_⟩
  rintro ⟨b, o, c, k, e, hb, hk, hl, ha, ho, hc⟩
  obtain ⟨k', g1, g2, g3, g4⟩ := K b k hk
  exact ⟨b, o, c, k', e, by omega, g1, g4 hl, by rw [g3]; exact ha, by rw [g2]; exact ho, by rw [g2]; exact hc⟩
theorem Ch.rd (C : Ch D h h') (R : Rd P h s v n cs) (hd : ∀ b, blkOf v = some b → ¬ D b) : Rd P h' s v n cs := by
  obtain ⟨h1, h2⟩ := R
  refine ⟨h1, h2.imp id ?_⟩
  rintro ⟨b, o, c, k, e, hb, hk, hr⟩
  exact ⟨b, o, c, k, e, Nat.lt_of_lt_of_le hb C.le, (C.at hb (hd b (by rw [e]; rfl))).trans hk, hr⟩
theorem Rd.keeps (R : Rd P h s v n cs) (K : Keeps h h') : Rd P h' s v n cs := Ch.rd K R fun _ _ => id
theorem RdI.keeps (R : RdI P h k v xs) (K : Keeps h h') : RdI P h' k v xs := Rd.keeps R K
theorem Rd.len (R : Rd P h s v n cs) {t e : TypeId} (ht : P.underlying t = some (.slice e)) : abuiltin P .len #[t] #[v] = some (.int .i64 n) := by
  obtain ⟨_, h2⟩ := R
  rcases h2 with ⟨rfl, rfl | rfl⟩ | ⟨b, o, c, k, rfl, _⟩ <;> simp [abuiltin, ht]
theorem Rd.index (R : Rd P h s v n cs) {t e : TypeId} (ht : P.underlying t = some (.slice e)) (hs : asz P e = some s) {q : IntKind} {i : Int} (h0 : 0 ≤ i) (h1 : i < n) :
    aindexAddr P t v (.int q i) = some (.pointer (some (eltA v s i.toNat))) := by
  obtain ⟨_, h2⟩ := R
  rcases h2 with ⟨rfl, _⟩ | ⟨b, o, c, k, rfl, _⟩
  · omega
  · simp [aindexAddr, ht, hs, h0, h1, eltA]
/-- One cell of an element. -/
theorem Rd.at (R : Rd P h s v n cs) {t : TypeId} {d : TypeDesc} (ht : P.underlying t = some d) (hd : isAggD d = false) {i j : Nat} (hi : i < n) (hj : j < s) : aload P h t ⟨(eltA v s i).block, (eltA v s i).off + j, none⟩ = cs[i * s + j]? := by
  obtain ⟨hl, h2⟩ := R
  have hlt : i * s + j < n * s := by
    have : (i + 1) * s ≤ n * s := Nat.mul_le_mul_right s (by omega)
    rw [Nat.add_mul] at this; omega
  rcases h2 with ⟨rfl, _⟩ | ⟨b, o, c, k, rfl, hb, hk, hlv, ha, ho, hc⟩
  · omega
  · simp only [aload, eltA, hk, hlv, if_true, ht, hd, Bool.false_eq_true, if_false]
    rw [← hc, List.getElem?_take, if_pos hlt, List.getElem?_drop]
    congr 1; omega
theorem eltA_eta {v : Value} {s i : Nat} : (⟨(eltA v s i).block, (eltA v s i).off + 0, none⟩ : Addr) = eltA v s i := by
  unfold eltA; split <;> rfl
theorem Rd.at0 (R : Rd P h s v n cs) {t : TypeId} {d : TypeDesc} (ht : P.underlying t = some d) (hd : isAggD d = false) {i : Nat} (hi : i < n) (hj : 0 < s) : aload P h t (eltA v s i) = cs[i * s]? := by
  have := R.at ht hd hi hj
  rw [eltA_eta] at this; exact this
theorem RdI.len (R : RdI P h k v xs) {t e : TypeId} (ht : P.underlying t = some (.slice e)) : abuiltin P .len #[t] #[v] = some (.int .i64 xs.length) := Rd.len R ht
theorem RdI.index (R : RdI P h k v xs) {t e : TypeId} (ht : P.underlying t = some (.slice e)) (hs : asz P e = some 1) {q : IntKind} {i : Int} (h0 : 0 ≤ i) (h1 : i < xs.length) :
    aindexAddr P t v (.int q i) = some (.pointer (some (eltA v 1 i.toNat))) := Rd.index R ht hs h0 h1
theorem RdI.at (R : RdI P h k v xs) {t : TypeId} {d : TypeDesc} (ht : P.underlying t = some d) (hd : isAggD d = false) {i : Nat} (hi : i < xs.length) : aload P h t (eltA v 1 i) = some (.int k (xs.getD i 0)) := by
  rw [Rd.at0 R ht hd hi (by omega)]
  simp [hi]
theorem Rd.nil0 {s : Nat} : Rd P h s (.slice none 0 0) 0 [] := ⟨by simp, .inl ⟨rfl, .inl rfl⟩⟩
theorem Rd.nil1 {s : Nat} : Rd P h s (.slice none 0 1) 0 [] := ⟨by simp, .inl ⟨rfl, .inr rfl⟩⟩
/-- A new block of its own is read. -/
theorem Rd.new (H : Wf h) {e : TypeId} {s m c : Nat} {cells : List Value} (he : asz P e = some s) (hl : cells.length = m * s) : Rd P (h.new e cells) s (.slice (some ⟨h.size, 0, none⟩) m c) m cells :=
  ⟨hl, .inr ⟨h.size, 0, c, _, rfl, Nat.lt_succ_self _, new_self, rfl, he, by simp [hl], by simp [← hl]⟩⟩

/-- A row that may grow: it is none; its room is known to be full; or its memory is the call's own (block B or behind) and ends with it. -/
def Own (P : Program) (B : Nat) (h : Heap) (s : Nat) (v : Value) (n : Nat) (cs : List Value) : Prop :=
  Rd P h s v n cs ∧ ((∃ c, v = .slice none 0 c) ∨ (∃ a, v = .slice (some a) n (n + 1)) ∨
    ∃ b o c k, v = .slice (some ⟨b, o, none⟩) n c ∧ B ≤ b ∧ h.get b = some k ∧ k.ro = false ∧ k.tail = true ∧ o + n * s = k.cells.length ∧ b < h.size)
theorem Own.rd {B : Nat} (O : Own P B h s v n cs) : Rd P h s v n cs := O.1
theorem Own.nil0 {B s : Nat} : Own P B h s (.slice none 0 0) 0 [] := ⟨Rd.nil0, .inl ⟨0, rfl⟩⟩
theorem Own.nil1 {B s : Nat} : Own P B h s (.slice none 0 1) 0 [] := ⟨Rd.nil1, .inl ⟨1, rfl⟩⟩
theorem Own.new (H : Wf h) {B : Nat} (hB : B ≤ h.size) {e : TypeId} {s m c : Nat} {cells : List Value} (he : asz P e = some s) (hl : cells.length = m * s) : Own P B (h.new e cells) s (.slice (some ⟨h.size, 0, none⟩) m c) m cells :=
  ⟨Rd.new H he hl, .inr (.inr ⟨h.size, 0, c, _, rfl, hB, new_self, rfl, rfl, by simp [hl], Nat.lt_succ_self _⟩)⟩
theorem Ch.own (C : Ch D h h') {B : Nat} (O : Own P B h s v n cs) (hd : ∀ b, blkOf v = some b → ¬ D b) : Own P B h' s v n cs := by
  obtain ⟨R, h3⟩ := O
  refine ⟨C.rd R hd, h3.imp id (Or.imp id ?_)⟩
  rintro ⟨b, o, c, k, rfl, hB, hk, hr, ht, hl, hlt⟩
  exact ⟨b, o, c, k, rfl, hB, (C.at hlt (hd b rfl)).trans hk, hr, ht, hl, Nat.lt_of_lt_of_le hlt C.le⟩
theorem Own.keeps {B : Nat} (O : Own P B h s v n cs) (K : Keeps h h') : Own P B h' s v n cs := Ch.own K O fun _ _ => id
theorem Rd.blk_lt (R : Rd P h s v n cs) {b : Nat} (hb : blkOf v = some b) : b < h.size ∧ ∃ k, h.get b = some k ∧ k.live = true := by
  obtain ⟨_, h2⟩ := R
  rcases h2 with ⟨_, rfl | rfl⟩ | ⟨b', o, c, k, rfl, hlt, hk, hl, _⟩
  · cases hb
  · cases hb
  · cases hb; exact ⟨hlt, k, hk, hl⟩
/-- Behind an append: the new row; all other blocks as they were. -/
theorem Own.append {B : Nat} (H : Wf h) (hB : B ≤ h.size) (O : Own P B h s v n cs) {t t2 e : TypeId} {d2 : TypeDesc} {i : TypeInfo} (ht : P.underlying t = some (.slice e)) (ht2 : P.underlying t2 = some d2) (hd2 : isRowD d2 = true)
    (hi : P.info? e = some i) (hz : zeroFits i = true) (hb : 0 < i.bytes) (hs : i.size = s) {x : Value} {m : Nat} {news : List Value} (hx : anews h s x = some (m, news)) (hm : 0 < m) (hnl : news.length = m * s)
    (hbig : (n + m) * i.bytes ≤ 140737488355328) :
    ∃ h', aappend P h t t2 v x = some (.slice (some ⟨h.size, 0, none⟩) (n + m) 0, h') ∧ Own P B h' s (.slice (some ⟨h.size, 0, none⟩) (n + m) 0) (n + m) (cs ++ news) ∧ h'.size = h.size + 1 ∧ Reads h h' ∧
      Ch (fun b => blkOf v = some b ∧ B ≤ b) h h' ∧ ∃ k, h'.get h.size = some k ∧ k.ro = false ∧ (k.fam = h.size ∨ ∃ b k', blkOf v = some b ∧ B ≤ b ∧ h.get b = some k' ∧ k.fam = k'.fam) := by
  have hm0 : m ≠ 0 := by omega
  have hae : asz P e = some s := by simp [asz, hi, hs]
  have hel : ∀ b k, h.get b = some k → asz P k.elem = some s → ∀ l : List Value, (l.length = (n + m) * s) → asz P k.elem = some s := fun _ _ _ h _ _ => h
  obtain ⟨⟨h1, h2⟩, h3⟩ := O
  have hlen : (cs ++ news).length = (n + m) * s := by simp [h1, hnl, Nat.add_mul]
  rcases h2 with ⟨rfl, hv⟩ | ⟨b, o, c, k, rfl, hlt, hk, hlv, ha, ho, hc⟩
  · have hcs : cs = [] := by simpa using h1
    subst hcs
    refine ⟨h.new e news, ?_, ?_, rfl, (Keeps.new H e news).reads H, Ch.mono (Keeps.new H e news) (fun _ e => e.elim), _, new_self, rfl, .inl rfl⟩
    · simp only [Nat.zero_add] at hbig
      rcases hv with rfl | rfl <;> simp [aappend, ht, ht2, hi, hd2, hb, hz, hs, hx, hm0, hbig]
    · simp only [List.nil_append, Nat.zero_add]
      exact Own.new H hB hae hnl
  · have hbig' : (n + m) * i.bytes ≤ 140737488355328 := hbig
    by_cases hex : c = n + 1
    · refine ⟨h.new e ((k.cells.drop o).take (n * s) ++ news), ?_, ?_, rfl, (Keeps.new H e _).reads H, Ch.mono (Keeps.new H e _) (fun _ e => e.elim), _, new_self, rfl, .inl rfl⟩
      · simp only [aappend, ht, ht2, hi, hd2, hb, hz, hs, hx, hm0, if_false, hk, hlv, ho, ha, hbig, hex, if_true, true_and, and_self]
      · rw [hc]
        exact Own.new H hB hae hlen
    · have h3' : ∃ b' o' c' k', (Value.slice (some ⟨b, o, none⟩) n c) = .slice (some ⟨b', o', none⟩) n c' ∧ B ≤ b' ∧ h.get b' = some k' ∧ k'.ro = false ∧ k'.tail = true ∧ o' + n * s = k'.cells.length ∧ b' < h.size := by
        rcases h3 with ⟨_, e⟩ | ⟨_, e⟩ | h3
        · cases e
        · cases e; exact absurd rfl hex
        · exact h3
      obtain ⟨b', o', c', k', e, hB', hk', hr, htl, hol, _⟩ := h3'
      cases e
      rw [hk] at hk'; cases hk'
      have hgrow : h.grow b k o (n * s) news = (h.put b { k with tail := false }).push ⟨(k.cells.drop o).take (n * s) ++ news, k.elem, k.fam, true, true, false⟩ := by
        simp only [Heap.grow]
        rw [if_pos ⟨htl, hol⟩]
      have hsz : (h.put b { k with tail := false }).size = h.size := rfl
      have hself : (h.grow b k o (n * s) news).get h.size = some ⟨(k.cells.drop o).take (n * s) ++ news, k.elem, k.fam, true, true, false⟩ := by
        rw [hgrow]; exact Heap.push_self
      have hne : ∀ x, x < h.size → x ≠ b → (h.grow b k o (n * s) news).get x = h.get x := fun x hx hxb => by
        rw [hgrow, Heap.push_ne (by rw [hsz]; omega), Heap.put_ne hxb]
      have hbb : (h.grow b k o (n * s) news).get b = some { k with tail := false } := by
        rw [hgrow, Heap.push_ne (by rw [hsz]; omega), Heap.put_self]
      refine ⟨h.grow b k o (n * s) news, ?_, ⟨⟨hlen, .inr ⟨h.size, 0, 0, _, rfl, ?_, hself, rfl, ha, ?_, ?_⟩⟩, .inr (.inr ⟨h.size, 0, 0, _, rfl, hB, hself, rfl, rfl, ?_, ?_⟩)⟩, by rw [hgrow]; rfl, ?_, ?_, _, hself, rfl, .inr ⟨b, k, rfl, hB', hk, rfl⟩⟩
      · simp only [aappend, ht, ht2, hi, hd2, hb, hz, hs, hx, hm0, if_false, hk, hlv, ho, ha, hbig, hex, hr, if_true, true_and, and_self]
      · rw [hgrow]; exact Nat.lt_succ_self _
      · rw [hc]; simp [hlen]
      · rw [hc, List.drop_zero, ← hlen]; exact List.take_length
      · rw [hc]; simp [hlen]
      · rw [hgrow]; exact Nat.lt_succ_self _
      · intro x kx hx
        by_cases e : x = b
        · subst e; rw [hk] at hx; cases hx; exact ⟨_, hbb, rfl, rfl, id⟩
        · exact ⟨kx, (hne x (H.lt hx) e).trans hx, rfl, rfl, id⟩
      · have hwf : Wf (h.grow b k o (n * s) news) := by
          rw [hgrow]; exact Wf.push (Wf.put (k := { k with tail := false }) H hk rfl) (Nat.le_trans (H.2 b k hk) (Nat.le_of_lt hlt))
        refine ⟨hwf, by rw [hgrow]; exact Nat.le_succ _, fun x hx hd => hne x hx (fun e => hd ⟨by rw [e]; rfl, by omega⟩), fun x kx hx hkx => .inr ?_, fun x kx hx hkx => ?_, fun _ _ _ => by rw [hgrow]; rfl⟩
        · have hxe : x = h.size := by
            have h1 := hwf.lt hkx
            rw [hgrow] at h1
            have h2 : x < h.size + 1 := h1
            omega
          subst hxe
          rw [hself] at hkx; cases hkx
          exact ⟨b, k, ⟨rfl, hB'⟩, hk, rfl⟩
        · by_cases e : x = b
          · subst e; rw [hbb] at hkx; cases hkx; exact ⟨k, hk, rfl⟩
          · rw [hne x hx e] at hkx; exact ⟨kx, hkx, rfl⟩
end
theorem arr_index {P : Program} {t e : TypeId} {n : Nat} {a : Addr} {q : IntKind} {i : Int} (ht : P.underlying t = some (.array n e)) (hs : asz P e = some 1) (h0 : 0 ≤ i) (h1 : i < n) :
    aindexAddr P t (.pointer (some a)) (.int q i) = some (.pointer (some ⟨a.block, a.off + i.toNat, none⟩)) := by simp [aindexAddr, ht, hs, h0, h1]
theorem fld_addr {P : Program} {t : TypeId} {fs : Array Field} {f : Nat} {fl : Field} {a : Addr} {s : Nat} (ht : P.underlying t = some (.struct fs)) (hf : fs[f]? = some fl) (hs : asz P fl.type = some s) (h0 : s ≠ 0) :
    afieldAddr P t (.pointer (some a)) f = some (.pointer (some ⟨a.block, a.off + fl.offset, none⟩)) := by simp [afieldAddr, ht, hf, hs, h0]
theorem one_cells {v : Value} (h : one v = true) : v.cells = #[v] := by
  cases v <;> first | rfl | cases h
theorem one_int {k : IntKind} {x : Int} : one (.int k x) = true := rfl
theorem one_slice {a n c} : one (.slice a n c) = true := rfl
theorem one_string {s} : one (.string s) = true := rfl
theorem one_bool {b} : one (.bool b) = true := rfl
theorem build1 {P : Program} {h : Heap} {t e : TypeId} {z v0 : Value} (ht : P.underlying t = some (.slice e)) (hs : asz P e = some 1) (hz : azero P e = some z) (hc : z.cells.size = 1) (h0 : one v0 = true) :
    abuildSlice P h t 1 #[(0, v0)] = some (.slice (some ⟨h.size, 0, none⟩) 1 2, h.new e [v0]) := by
  have hr : Array.range 1 = #[0] := rfl
  simp [abuildSlice, ht, hs, hz, firstOf, Instr.fill, hc, hr, h0, one_cells h0]
theorem build2 {P : Program} {h : Heap} {t e : TypeId} {z v0 v1 : Value} (ht : P.underlying t = some (.slice e)) (hs : asz P e = some 1) (hz : azero P e = some z) (hc : z.cells.size = 1) (h0 : one v0 = true) (h1 : one v1 = true) :
    abuildSlice P h t 2 #[(0, v0), (1, v1)] = some (.slice (some ⟨h.size, 0, none⟩) 2 3, h.new e [v0, v1]) := by
  have hr : Array.range 2 = #[0, 1] := rfl
  simp [abuildSlice, ht, hs, hz, firstOf, Instr.fill, hc, hr, h0, one_cells h0, h1, one_cells h1]
theorem build3 {P : Program} {h : Heap} {t e : TypeId} {z v0 v1 v2 : Value} (ht : P.underlying t = some (.slice e)) (hs : asz P e = some 1) (hz : azero P e = some z) (hc : z.cells.size = 1) (h0 : one v0 = true) (h1 : one v1 = true) (h2 : one v2 = true) :
    abuildSlice P h t 3 #[(0, v0), (1, v1), (2, v2)] = some (.slice (some ⟨h.size, 0, none⟩) 3 4, h.new e [v0, v1, v2]) := by
  have hr : Array.range 3 = #[0, 1, 2] := rfl
  simp [abuildSlice, ht, hs, hz, firstOf, Instr.fill, hc, hr, h0, one_cells h0, h1, one_cells h1, h2, one_cells h2]
theorem build4 {P : Program} {h : Heap} {t e : TypeId} {z v0 v1 v2 v3 : Value} (ht : P.underlying t = some (.slice e)) (hs : asz P e = some 1) (hz : azero P e = some z) (hc : z.cells.size = 1) (h0 : one v0 = true) (h1 : one v1 = true) (h2 : one v2 = true) (h3 : one v3 = true) :
    abuildSlice P h t 4 #[(0, v0), (1, v1), (2, v2), (3, v3)] = some (.slice (some ⟨h.size, 0, none⟩) 4 5, h.new e [v0, v1, v2, v3]) := by
  have hr : Array.range 4 = #[0, 1, 2, 3] := rfl
  simp [abuildSlice, ht, hs, hz, firstOf, Instr.fill, hc, hr, h0, one_cells h0, h1, one_cells h1, h2, one_cells h2, h3, one_cells h3]
theorem build5 {P : Program} {h : Heap} {t e : TypeId} {z v0 v1 v2 v3 v4 : Value} (ht : P.underlying t = some (.slice e)) (hs : asz P e = some 1) (hz : azero P e = some z) (hc : z.cells.size = 1) (h0 : one v0 = true) (h1 : one v1 = true) (h2 : one v2 = true) (h3 : one v3 = true) (h4 : one v4 = true) :
    abuildSlice P h t 5 #[(0, v0), (1, v1), (2, v2), (3, v3), (4, v4)] = some (.slice (some ⟨h.size, 0, none⟩) 5 6, h.new e [v0, v1, v2, v3, v4]) := by
  have hr : Array.range 5 = #[0, 1, 2, 3, 4] := rfl
  simp [abuildSlice, ht, hs, hz, firstOf, Instr.fill, hc, hr, h0, one_cells h0, h1, one_cells h1, h2, one_cells h2, h3, one_cells h3, h4, one_cells h4]
theorem build6 {P : Program} {h : Heap} {t e : TypeId} {z v0 v1 v2 v3 v4 v5 : Value} (ht : P.underlying t = some (.slice e)) (hs : asz P e = some 1) (hz : azero P e = some z) (hc : z.cells.size = 1) (h0 : one v0 = true) (h1 : one v1 = true) (h2 : one v2 = true) (h3 : one v3 = true) (h4 : one v4 = true) (h5 : one v5 = true) :
    abuildSlice P h t 6 #[(0, v0), (1, v1), (2, v2), (3, v3), (4, v4), (5, v5)] = some (.slice (some ⟨h.size, 0, none⟩) 6 7, h.new e [v0, v1, v2, v3, v4, v5]) := by
  have hr : Array.range 6 = #[0, 1, 2, 3, 4, 5] := rfl
  simp [abuildSlice, ht, hs, hz, firstOf, Instr.fill, hc, hr, h0, one_cells h0, h1, one_cells h1, h2, one_cells h2, h3, one_cells h3, h4, one_cells h4, h5, one_cells h5]
theorem buildA2 {P : Program} {h : Heap} {t e : TypeId} {z v0 v1 : Value} (ht : P.underlying t = some (.slice e)) (hs : asz P e = some 2) (hz : azero P e = some z) (hc : z.cells.size = 2) (h0 : one v0 = true) (h1 : one v1 = true) :
    abuildSlice P h t 1 #[(0, .agg #[v0, v1])] = some (.slice (some ⟨h.size, 0, none⟩) 1 2, h.new e [v0, v1]) := by
  have hr : Array.range 2 = #[0, 1] := rfl
  simp [abuildSlice, ht, hs, hz, firstOf, Instr.fill, hc, hr, Value.cells, h0, h1]
theorem buildA3 {P : Program} {h : Heap} {t e : TypeId} {z v0 v1 v2 : Value} (ht : P.underlying t = some (.slice e)) (hs : asz P e = some 3) (hz : azero P e = some z) (hc : z.cells.size = 3) (h0 : one v0 = true) (h1 : one v1 = true) (h2 : one v2 = true) :
    abuildSlice P h t 1 #[(0, .agg #[v0, v1, v2])] = some (.slice (some ⟨h.size, 0, none⟩) 1 2, h.new e [v0, v1, v2]) := by
  have hr : Array.range 3 = #[0, 1, 2] := rfl
  simp [abuildSlice, ht, hs, hz, firstOf, Instr.fill, hc, hr, Value.cells, h0, h1, h2]
theorem buildA4 {P : Program} {h : Heap} {t e : TypeId} {z v0 v1 v2 v3 : Value} (ht : P.underlying t = some (.slice e)) (hs : asz P e = some 4) (hz : azero P e = some z) (hc : z.cells.size = 4) (h0 : one v0 = true) (h1 : one v1 = true) (h2 : one v2 = true) (h3 : one v3 = true) :
    abuildSlice P h t 1 #[(0, .agg #[v0, v1, v2, v3])] = some (.slice (some ⟨h.size, 0, none⟩) 1 2, h.new e [v0, v1, v2, v3]) := by
  have hr : Array.range 4 = #[0, 1, 2, 3] := rfl
  simp [abuildSlice, ht, hs, hz, firstOf, Instr.fill, hc, hr, Value.cells, h0, h1, h2, h3]
theorem buildA5 {P : Program} {h : Heap} {t e : TypeId} {z v0 v1 v2 v3 v4 : Value} (ht : P.underlying t = some (.slice e)) (hs : asz P e = some 5) (hz : azero P e = some z) (hc : z.cells.size = 5) (h0 : one v0 = true) (h1 : one v1 = true) (h2 : one v2 = true) (h3 : one v3 = true) (h4 : one v4 = true) :
    abuildSlice P h t 1 #[(0, .agg #[v0, v1, v2, v3, v4])] = some (.slice (some ⟨h.size, 0, none⟩) 1 2, h.new e [v0, v1, v2, v3, v4]) := by
  have hr : Array.range 5 = #[0, 1, 2, 3, 4] := rfl
  simp [abuildSlice, ht, hs, hz, firstOf, Instr.fill, hc, hr, Value.cells, h0, h1, h2, h3, h4]
theorem buildA6 {P : Program} {h : Heap} {t e : TypeId} {z v0 v1 v2 v3 v4 v5 : Value} (ht : P.underlying t = some (.slice e)) (hs : asz P e = some 6) (hz : azero P e = some z) (hc : z.cells.size = 6) (h0 : one v0 = true) (h1 : one v1 = true) (h2 : one v2 = true) (h3 : one v3 = true) (h4 : one v4 = true) (h5 : one v5 = true) :
    abuildSlice P h t 1 #[(0, .agg #[v0, v1, v2, v3, v4, v5])] = some (.slice (some ⟨h.size, 0, none⟩) 1 2, h.new e [v0, v1, v2, v3, v4, v5]) := by
  have hr : Array.range 6 = #[0, 1, 2, 3, 4, 5] := rfl
  simp [abuildSlice, ht, hs, hz, firstOf, Instr.fill, hc, hr, Value.cells, h0, h1, h2, h3, h4, h5]
theorem buildA7 {P : Program} {h : Heap} {t e : TypeId} {z v0 v1 v2 v3 v4 v5 v6 : Value} (ht : P.underlying t = some (.slice e)) (hs : asz P e = some 7) (hz : azero P e = some z) (hc : z.cells.size = 7) (h0 : one v0 = true) (h1 : one v1 = true) (h2 : one v2 = true) (h3 : one v3 = true) (h4 : one v4 = true) (h5 : one v5 = true) (h6 : one v6 = true) :
    abuildSlice P h t 1 #[(0, .agg #[v0, v1, v2, v3, v4, v5, v6])] = some (.slice (some ⟨h.size, 0, none⟩) 1 2, h.new e [v0, v1, v2, v3, v4, v5, v6]) := by
  have hr : Array.range 7 = #[0, 1, 2, 3, 4, 5, 6] := rfl
  simp [abuildSlice, ht, hs, hz, firstOf, Instr.fill, hc, hr, Value.cells, h0, h1, h2, h3, h4, h5, h6]
theorem buildA8 {P : Program} {h : Heap} {t e : TypeId} {z v0 v1 v2 v3 v4 v5 v6 v7 : Value} (ht : P.underlying t = some (.slice e)) (hs : asz P e = some 8) (hz : azero P e = some z) (hc : z.cells.size = 8) (h0 : one v0 = true) (h1 : one v1 = true) (h2 : one v2 = true) (h3 : one v3 = true) (h4 : one v4 = true) (h5 : one v5 = true) (h6 : one v6 = true) (h7 : one v7 = true) :
    abuildSlice P h t 1 #[(0, .agg #[v0, v1, v2, v3, v4, v5, v6, v7])] = some (.slice (some ⟨h.size, 0, none⟩) 1 2, h.new e [v0, v1, v2, v3, v4, v5, v6, v7]) := by
  have hr : Array.range 8 = #[0, 1, 2, 3, 4, 5, 6, 7] := rfl
  simp [abuildSlice, ht, hs, hz, firstOf, Instr.fill, hc, hr, Value.cells, h0, h1, h2, h3, h4, h5, h6, h7]
end Go.Proofs.Ytgfccaaalkkdlaa.Am
