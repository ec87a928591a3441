/- The frame Am, a text beside the others: memory told by families (what was made together with what); things that own families of their own. Nothing of a program stands here. -/
import Derived.Test.YtgfccaaalkkdlaaAmKind4
set_option linter.unusedVariables false
set_option linter.unusedSimpArgs false
namespace Go.Proofs.Ytgfccaaalkkdlaa.Am
open Go Go.RowKit
/-- A value's memory is of a family that Fs tells. -/
def Fam (h : Heap) (Fs : Nat → Prop) (v : Value) : Prop := ∀ z k, blkOf v = some z → h.get z = some k → Fs k.fam
/-- The blocks of such families. -/
def Rg (Fs : Nat → Prop) (h : Heap) (x : Nat) : Prop := ∃ k, h.get x = some k ∧ Fs k.fam
section
variable {P : Program} {h h' h'' : Heap} {s n m : Nat} {b x : Nat} {cs : List Value} {D Fs Gs : Nat → Prop} {v : Value}
theorem Rg.back (C : Ch D h h') (F : Rg Fs h' x) : h.size ≤ x ∨ Rg Fs h x := by
  obtain ⟨k, g, f⟩ := F
  rcases Nat.lt_or_ge x h.size with hx | hx
  · obtain ⟨k0, g0, e⟩ := C.2.2.2.2.1 x k hx g
    exact .inr ⟨k0, g0, by rw [← e]; exact f⟩
  · exact .inl hx
theorem Rg.mono (F : Rg Fs h x) (hs : ∀ n, Fs n → Gs n) : Rg Gs h x := by
  obtain ⟨k, g, f⟩ := F
  exact ⟨k, g, hs _ f⟩
theorem Ch.thenR (C1 : Ch (Rg Fs h) h h') (C2 : Ch (Rg Fs h') h' h'') : Ch (Rg Fs h) h h'' := C1.then C2 fun x F => Rg.back C1 F
theorem Keeps.rg (K : Keeps h h') : Ch (Rg Fs h) h h' := Ch.mono K fun _ e => e.elim
theorem FamV.rg (F : Fam h Fs v) {x : Nat} (G : FamV h v x) : Rg Fs h x := by
  obtain ⟨b, hb, k1, k2, g1, g2, e⟩ := G
  exact ⟨k1, g1, by rw [e]; exact F b k2 hb g2⟩
theorem Fam.mono (F : Fam h Fs v) (hs : ∀ n, Fs n → Gs n) : Fam h Gs v := fun z k hz g => hs _ (F z k hz g)
theorem Fam.ch (F : Fam h Fs v) (C : Ch D h h') (hlt : ∀ z, blkOf v = some z → z < h.size) : Fam h' Fs v := fun z k hz g => by
  obtain ⟨k0, g0, e⟩ := C.2.2.2.2.1 z k (hlt z hz) g
  rw [e]; exact F z k0 hz g0
/-- What is new is of a family of its own, or of one that was written to. -/
theorem Fam.fresh (C : Ch (Rg Fs h) h h') (hz : ∀ z, blkOf v = some z → h.size ≤ z) : Fam h' (fun n => Fs n ∨ h.size ≤ n ∧ n < h'.size) v := fun z k hzz g => by
  have hle := (Ch.wf C).2 z k g
  have hlt := (Ch.wf C).lt g
  rcases C.2.2.2.1 z k (hz z hzz) g with h1 | ⟨y, k0, ⟨k1, g1, f1⟩, g0, e⟩
  · exact .inr ⟨h1, by omega⟩
  · rw [g0] at g1; cases g1
    exact .inl (by rw [e]; exact f1)
theorem Fam.freshK (K : Keeps h h') (hz : ∀ z, blkOf v = some z → h.size ≤ z) : Fam h' (fun n => h.size ≤ n ∧ n < h'.size) v := fun z k hzz g => by
  have hle := (Ch.wf K).2 z k g
  have hlt := (Ch.wf K).lt g
  rcases K.2.2.2.1 z k (hz z hzz) g with h1 | ⟨y, k0, e, _⟩
  · exact ⟨h1, by omega⟩
  · exact e.elim
theorem Fam.nil {m c : Nat} : Fam h Fs (.slice none m c) := fun z k e => by cases e
theorem Fam.apart (F : Fam h Fs v) (hd : ∀ n, Fs n → ¬ Gs n) : ∀ z, blkOf v = some z → ¬ Rg Gs h z := fun z hz ⟨k, g, f⟩ => hd _ (F z k hz g) f
theorem Var.fam (V : Var h b cs) : ∃ k, h.get b = some k ∧ k.fam = b := by
  obtain ⟨k, h1, _, _, _, h5, _⟩ := V
  exact ⟨k, h1, h5⟩
theorem Var.rg (V : Var h b cs) (hb : Fs b) : Rg Fs h b := by
  obtain ⟨k, g, e⟩ := V.fam
  exact ⟨k, g, by rw [e]; exact hb⟩
theorem Var.apart (V : Var h b cs) (hb : ¬ Gs b) : ¬ Rg Gs h b := fun ⟨k, g, f⟩ => by
  obtain ⟨k0, g0, e⟩ := V.fam
  rw [g0] at g; cases g
  exact hb (by rw [← e]; exact f)
end
end Go.Proofs.Ytgfccaaalkkdlaa.Am
