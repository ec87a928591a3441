/- A row of units grows by one; a mark joins its last unit: what becomes of memory. -/
import Derived.Test.YtcnjmmffipjadaaDoorFe
set_option linter.unusedSimpArgs false
set_option linter.unusedVariables false
set_option maxHeartbeats 1000000
namespace Go.Proofs.YtcnjmmffipjadaaDoor.Am
open Go Go.RowKit Go.Proofs.Tryd
theorem UL.push {B : Nat} {h : Heap} {l tv : Value} {uv : List (U × Value)} {u : U} (H : Wf h) (hB : B ≤ h.size) (L : UL B h l uv) (O : Own prog B h 1 tv u.tx.length (vI u.tx))
    (hf : ∀ b k bl kl, blkOf tv = some b → h.get b = some k → blkOf l = some bl → h.get bl = some kl → k.fam ≠ kl.fam) (hbig : uv.length ≤ 1000000) :
    ∃ l' h', aappend prog (h.new 36 (cellsU (u, tv))) 33 33 l (.slice (some ⟨h.size, 0, none⟩) 1 2) = some (l', h') ∧ UL B h' l' (uv ++ [(u, tv)]) ∧ Ch (fun b => blkOf l = some b ∧ B ≤ b) h h' := by
  obtain ⟨l', h', e, O', C, R, el, k1, g1, g2⟩ := L.own.append1 (P := prog) H hB underlying33 elem36 fits36 (by decide) (by decide) (xs := cellsU (u, tv)) rfl (by omega)
  have all : ∀ x, x ∈ uv ++ [(u, tv)] → RdI prog h .i32 x.2 x.1.tx ∧ ∀ b k bl kl, blkOf x.2 = some b → h.get b = some k → blkOf l = some bl → h.get bl = some kl → k.fam ≠ kl.fam := fun x hx => by
    rcases List.mem_append.1 hx with hx | hx
    · exact ⟨L.txt x hx, L.fam x hx⟩
    · simp only [List.mem_singleton] at hx; subst hx; exact ⟨O.1, hf⟩
  refine ⟨l', h', e, ⟨?_, fun x hx => Rd.reads (all x hx).1 C.le R, fun x hx b k bl kl h1 h2 h3 h4 => ?_, fun pre x ep => ?_, .inr ⟨⟨h.size + 1, 0, none⟩, by rw [el]; simp⟩⟩, C⟩
  · have : (uv ++ [(u, tv)]).flatMap cellsU = uv.flatMap cellsU ++ cellsU (u, tv) := by simp
    rw [this, List.length_append]; exact O'
  · have hb := (all x hx).1.blk_lt h1
    rw [el] at h3
    simp only [blkOf, Option.some.injEq] at h3
    subst h3
    rw [g1] at h4; cases h4
    obtain ⟨k0, q1, q2⟩ := C.2.2.2.2 b k hb.1 h2
    have := H.2 b k0 q1
    rcases g2 with g2 | ⟨y, k', p1, p2, p3, p4⟩
    · have := hb.1; omega
    · rw [q2, p4]; exact (all x hx).2 b k0 y k' h1 q1 p1 p3
  · have hx : x = (u, tv) := by
      have := congrArg List.getLast? ep
      simp at this; exact this.symm
    subst hx
    refine Ch.own C O fun b hb hd => ?_
    obtain ⟨_, k, hk, _⟩ := O.1.blk_lt hb
    exact hf b k b k hb hk hd.1 hk rfl
/-- A value's memory is not that of block bl. -/
def NF (h : Heap) (bl : Nat) (x : Value) : Prop := ∀ b k kl, blkOf x = some b → h.get b = some k → h.get bl = some kl → k.fam ≠ kl.fam
theorem NF.ch {D : Nat → Prop} {h h' : Heap} {bl : Nat} {x : Value} (N : NF h bl x) (C : Ch D h h') (hx : ∀ b, blkOf x = some b → b < h.size) (hb : bl < h.size) : NF h' bl x := fun b k kl h1 h2 h3 => by
  obtain ⟨k0, q1, q2⟩ := C.2.2.2.2 b k (hx b h1) h2
  obtain ⟨k1, p1, p2⟩ := C.2.2.2.2 bl kl hb h3
  rw [q2, p2]; exact N b k0 k1 h1 q1 p1
theorem NF.out {h : Heap} {bl : Nat} {x : Value} (N : NF h bl x) : ∀ b, blkOf x = some b → ¬ FamOf h bl b := fun b hb ⟨k, kb, h1, h2, h3⟩ => N b k kb hb h1 h2 h3
theorem UL.mark {B : Nat} {h : Heap} {l tv : Value} {pre : List (U × Value)} {u : U} {r t : Int} (H : Wf h) (hB : B ≤ h.size) (L : UL B h l (pre ++ [(u, tv)])) (hbig : u.tx.length ≤ 1000000) :
    ∃ tv' h1 h2 h3, aappend prog (h.new 21 [.int .i32 r]) 24 24 tv (.slice (some ⟨h.size, 0, none⟩) 1 2) = some (tv', h1) ∧
      storeV prog h1 3 (.pointer (some ⟨(eltA l 5 pre.length).block, (eltA l 5 pre.length).off + 1, none⟩)) (.int .i64 t) = some (undef, h2) ∧
      storeV prog h2 24 (.pointer (some ⟨(eltA l 5 pre.length).block, (eltA l 5 pre.length).off + 4, none⟩)) tv' = some (undef, h3) ∧
      UL B h3 l (pre ++ [({ u with to := t, tx := u.tx ++ [r] }, tv')]) ∧ ∀ h0, h0.size = B → Keeps h0 h → Keeps h0 h3 := by
  have Otv := L.last pre (u, tv) rfl
  obtain ⟨tv', h1, e1, O1, C1, R1, ev, k3, g1, g2⟩ := Otv.append1 (P := prog) H hB underlying24 elem21 fits21 (by decide) (by decide) (xs := [.int .i32 r]) rfl (by simp only; omega)
  have hf : ∃ a, l = .slice (some a) (pre.length + 1) 0 := by
    rcases L.frm with ⟨e, _⟩ | ⟨a, e⟩
    · simp at e
    · exact ⟨a, by rw [e]; simp⟩
  obtain ⟨a, rfl⟩ := hf
  have hbl := L.own.1.blk_lt (b := a.block) rfl
  obtain ⟨hbl, kl, hkl, _⟩ := hbl
  have Nx : ∀ x, x ∈ pre ++ [(u, tv)] → NF h a.block x.2 := fun x hx b k kl h1 h2 h3 => L.fam x hx b k a.block kl h1 h2 rfl h3
  have Ntv := Nx (u, tv) (by simp)
  have OL1 : Own prog B h1 5 (.slice (some a) (pre.length + 1) 0) (pre.length + 1) ((pre ++ [(u, tv)]).flatMap cellsU) := by
    have := Ch.own C1 L.own fun b hb hd => by
      simp only [blkOf, Option.some.injEq] at hb; subst hb
      exact Ntv a.block kl kl hd.1 hkl hkl rfl
    simpa using this
  have hbl1 : a.block < h1.size := Nat.lt_of_lt_of_le hbl C1.le
  have N1 : ∀ x, x ∈ pre → NF h1 a.block x.2 := fun x hx => (Nx x (by simp [hx])).ch C1 (fun b hb => ((L.txt x (by simp [hx])).blk_lt hb).1) hbl
  have T1 : ∀ x, x ∈ pre → RdI prog h1 .i32 x.2 x.1.tx := fun x hx => Rd.reads (L.txt x (by simp [hx])) C1.le R1
  have Nv1 : NF h1 a.block tv' := fun b k kb q1 q2 q3 => by
    rw [ev] at q1; simp only [blkOf, Option.some.injEq] at q1; subst q1
    rw [g1] at q2; cases q2
    obtain ⟨k0, p1, p2⟩ := C1.2.2.2.2 a.block kb hbl q3
    rw [hkl] at p1; cases p1
    have := H.2 _ _ hkl
    rcases g2 with g2 | ⟨y, k', s1, s2, s3, s4⟩
    · omega
    · rw [s4, p2]; exact Ntv y k' kl s1 s3 hkl
  obtain ⟨h2, e2, OL2, C2, z2, _⟩ := Own.store (P := prog) (C1.wf) OL1 (t := 3) (w := .int .i64 t) (i := pre.length) (j := 1) asz3 rfl (by omega) (by omega)
  have hbl2 : a.block < h2.size := by omega
  have O2 := Ch.own C2 O1 Nv1.out
  have Nv2 := Nv1.ch C2 (fun b hb => (O1.1.blk_lt hb).1) hbl1
  have N2 : ∀ x, x ∈ pre → NF h2 a.block x.2 := fun x hx => (N1 x hx).ch C2 (fun b hb => ((T1 x hx).blk_lt hb).1) hbl1
  have T2 : ∀ x, x ∈ pre → RdI prog h2 .i32 x.2 x.1.tx := fun x hx => Ch.rd C2 (T1 x hx) (N1 x hx).out
  rw [cellsU_set (by omega), show (cellsU (u, tv)).set 1 (.int .i64 t) = cellsU ({ u with to := t }, tv) from rfl, show pre.flatMap cellsU ++ cellsU ({ u with to := t }, tv) = (pre ++ [({ u with to := t }, tv)]).flatMap cellsU by simp] at OL2
  obtain ⟨h3, e3, OL3, C3, z3, _⟩ := Own.store (P := prog) (C2.wf) OL2 (t := 24) (w := tv') (i := pre.length) (j := 4) asz24 O2.1.one (by omega) (by omega)
  have O3 := Ch.own C3 O2 Nv2.out
  have Nv3 := Nv2.ch C3 (fun b hb => (O2.1.blk_lt hb).1) hbl2
  have N3 : ∀ x, x ∈ pre → NF h3 a.block x.2 := fun x hx => (N2 x hx).ch C3 (fun b hb => ((T2 x hx).blk_lt hb).1) hbl2
  have T3 : ∀ x, x ∈ pre → RdI prog h3 .i32 x.2 x.1.tx := fun x hx => Ch.rd C3 (T2 x hx) (N2 x hx).out
  rw [cellsU_set (by omega), show (cellsU ({ u with to := t }, tv)).set 4 tv' = cellsU ({ u with to := t, tx := u.tx ++ [r] }, tv') from rfl, show pre.flatMap cellsU ++ cellsU ({ u with to := t, tx := u.tx ++ [r] }, tv') = (pre ++ [({ u with to := t, tx := u.tx ++ [r] }, tv')]).flatMap cellsU by simp] at OL3
  have O3' : Own prog B h3 1 tv' (u.tx ++ [r]).length (vI (u.tx ++ [r])) := by
    simpa [vI] using O3
  refine ⟨tv', h1, h2, h3, e1, e2, e3, ⟨by simpa using OL3, fun x hx => ?_, fun x hx b k bl kb q1 q2 q3 q4 => ?_, fun p x e => ?_, .inr ⟨a, by simp⟩⟩, fun h0 hz K => ?_⟩
  · rcases List.mem_append.1 hx with hx | hx
    · exact T3 x hx
    · simp only [List.mem_singleton] at hx; subst hx; exact O3'.1
  · simp only [blkOf, Option.some.injEq] at q3; subst q3
    rcases List.mem_append.1 hx with hx | hx
    · exact N3 x hx b k kb q1 q2 q4
    · simp only [List.mem_singleton] at hx; subst hx; exact Nv3 b k kb q1 q2 q4
  · have hx : x = ({ u with to := t, tx := u.tx ++ [r] }, tv') := by
      have := congrArg List.getLast? e
      simp at this; exact this.symm
    subst hx; exact O3'
  · have famB : ∀ (hh : Heap), Keeps h0 hh → a.block < hh.size → B ≤ a.block → ∀ b, FamOf hh a.block b → h0.size ≤ b := fun hh KK hlt hBa b ⟨k, kb, q1, q2, q3⟩ => by
      have f1 := (KK.2.2.2.1 a.block kb (by omega) q2).resolve_right fun ⟨_, _, e, _⟩ => e
      have f2 := KK.1.2 b k q1
      omega
    have hBa : B ≤ a.block := by
      obtain ⟨b, o, k, e, hb, _⟩ := OL1.third
      rw [e]; exact hb
    have K1 : Keeps h0 h1 := K.step C1 fun b hb => by rw [hz]; exact hb.2
    have K2 : Keeps h0 h2 := K1.step C2 (famB h1 K1 hbl1 hBa)
    exact K2.step C3 (famB h2 K2 hbl2 hBa)
end Go.Proofs.YtcnjmmffipjadaaDoor.Am
