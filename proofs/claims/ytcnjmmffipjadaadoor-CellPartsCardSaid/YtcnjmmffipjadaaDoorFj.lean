/- The last unit of a row is set to end elsewhere; its text grows by one rune: what becomes of memory. -/
import Derived.Test.YtcnjmmffipjadaaDoorFi
set_option linter.unusedSimpArgs false
set_option linter.unusedVariables false
set_option maxHeartbeats 1000000
namespace Go.Proofs.YtcnjmmffipjadaaDoor.Am
open Go Go.RowKit Go.Proofs.Tryd
theorem UL.parts {B : Nat} {h : Heap} {l tv : Value} {pre : List (U × Value)} {u : U} (L : UL B h l (pre ++ [(u, tv)])) :
    ∃ a kl, l = .slice (some a) (pre.length + 1) 0 ∧ a.block < h.size ∧ h.get a.block = some kl ∧ B ≤ a.block ∧ (∀ x, x ∈ pre ++ [(u, tv)] → NF h a.block x.2) ∧ Own prog B h 5 (.slice (some a) (pre.length + 1) 0) (pre.length + 1) ((pre ++ [(u, tv)]).flatMap cellsU) := by
  have hf : ∃ a, l = .slice (some a) (pre.length + 1) 0 := by
    rcases L.frm with ⟨e, _⟩ | ⟨a, e⟩
    · simp at e
    · exact ⟨a, by rw [e]; simp⟩
  obtain ⟨a, rfl⟩ := hf
  obtain ⟨hbl, kl, hkl, _⟩ := L.own.1.blk_lt (b := a.block) rfl
  have O : Own prog B h 5 (.slice (some a) (pre.length + 1) 0) (pre.length + 1) ((pre ++ [(u, tv)]).flatMap cellsU) := by simpa using L.own
  have hBa : B ≤ a.block := by
    obtain ⟨b, o, k, e, hb, _⟩ := O.third
    rw [e]; exact hb
  exact ⟨a, kl, rfl, hbl, hkl, hBa, fun x hx b k kl h1 h2 h3 => L.fam x hx b k a.block kl h1 h2 rfl h3, O⟩
theorem famB {B : Nat} {h0 hh : Heap} {bl : Nat} (hz : h0.size = B) (KK : Keeps h0 hh) (hlt : bl < hh.size) (hBa : B ≤ bl) : ∀ b, FamOf hh bl b → h0.size ≤ b := fun b ⟨k, kb, q1, q2, q3⟩ => by
  have f1 := (KK.2.2.2.1 bl kb (by omega) q2).resolve_right fun ⟨_, _, e, _⟩ => e
  have f2 := KK.1.2 b k q1
  omega
theorem UL.setTo {B : Nat} {h : Heap} {l tv : Value} {pre : List (U × Value)} {u : U} {t : Int} (H : Wf h) (L : UL B h l (pre ++ [(u, tv)])) :
    ∃ h2, storeV prog h 3 (.pointer (some ⟨(eltA l 5 pre.length).block, (eltA l 5 pre.length).off + 1, none⟩)) (.int .i64 t) = some (undef, h2) ∧
      UL B h2 l (pre ++ [({ u with to := t }, tv)]) ∧ ∀ h0, h0.size = B → Keeps h0 h → Keeps h0 h2 := by
  have Otv := L.last pre (u, tv) rfl
  obtain ⟨a, kl, rfl, hbl, hkl, hBa, N, O⟩ := L.parts
  obtain ⟨h2, e2, OL2, C2, z2, _⟩ := Own.store (P := prog) H O (t := 3) (w := .int .i64 t) (i := pre.length) (j := 1) asz3 rfl (by omega) (by omega)
  rw [cellsU_set (by omega), show (cellsU (u, tv)).set 1 (.int .i64 t) = cellsU ({ u with to := t }, tv) from rfl, show pre.flatMap cellsU ++ cellsU ({ u with to := t }, tv) = (pre ++ [({ u with to := t }, tv)]).flatMap cellsU by simp] at OL2
  have T2 : ∀ x, x ∈ pre ++ [(u, tv)] → RdI prog h2 .i32 x.2 x.1.tx := fun x hx => Ch.rd C2 (L.txt x hx) (N x hx).out
  have N2 : ∀ x, x ∈ pre ++ [(u, tv)] → NF h2 a.block x.2 := fun x hx => (N x hx).ch C2 (fun b hb => ((L.txt x hx).blk_lt hb).1) hbl
  refine ⟨h2, e2, ⟨by simpa using OL2, fun x hx => ?_, fun x hx b k bl kb q1 q2 q3 q4 => ?_, fun p x e => ?_, .inr ⟨a, by simp⟩⟩, fun h0 hz K => K.step C2 (famB hz K hbl hBa)⟩
  · rcases List.mem_append.1 hx with hx | hx
    · exact T2 x (by simp [hx])
    · simp only [List.mem_singleton] at hx; subst hx; exact T2 (u, tv) (by simp)
  · simp only [blkOf, Option.some.injEq] at q3; subst q3
    rcases List.mem_append.1 hx with hx | hx
    · exact N2 x (by simp [hx]) b k kb q1 q2 q4
    · simp only [List.mem_singleton] at hx; subst hx; exact N2 (u, tv) (by simp) b k kb q1 q2 q4
  · have hx : x = ({ u with to := t }, tv) := by
      have := congrArg List.getLast? e
      simp at this; exact this.symm
    subst hx; exact Ch.own C2 Otv (N (u, tv) (by simp)).out
theorem UL.addText {B : Nat} {h : Heap} {l tv : Value} {pre : List (U × Value)} {u : U} {r : Int} (H : Wf h) (hB : B ≤ h.size) (L : UL B h l (pre ++ [(u, tv)])) (hbig : u.tx.length ≤ 1000000) :
    ∃ tv' h1 h3, aappend prog (h.new 21 [.int .i32 r]) 24 24 tv (.slice (some ⟨h.size, 0, none⟩) 1 2) = some (tv', h1) ∧
      storeV prog h1 24 (.pointer (some ⟨(eltA l 5 pre.length).block, (eltA l 5 pre.length).off + 4, none⟩)) tv' = some (undef, h3) ∧
      UL B h3 l (pre ++ [({ u with tx := u.tx ++ [r] }, tv')]) ∧ ∀ h0, h0.size = B → Keeps h0 h → Keeps h0 h3 := by
  have Otv := L.last pre (u, tv) rfl
  obtain ⟨tv', h1, e1, O1, C1, R1, ev, k3, g1, g2⟩ := Otv.append1 (P := prog) H hB underlying24 elem21 fits21 (by decide) (by decide) (xs := [.int .i32 r]) rfl (by simp only; omega)
  obtain ⟨a, kl, rfl, hbl, hkl, hBa, Nx, OL⟩ := L.parts
  have Ntv := Nx (u, tv) (by simp)
  have OL1 := Ch.own C1 OL fun b hb hd => by
    simp only [blkOf, Option.some.injEq] at hb; subst hb
    exact Ntv a.block kl kl hd.1 hkl hkl rfl
  have hbl1 : a.block < h1.size := Nat.lt_of_lt_of_le hbl C1.le
  have N1 : ∀ x, x ∈ pre → NF h1 a.block x.2 := fun x hx => (Nx x (by simp [hx])).ch C1 (fun b hb => ((L.txt x (by simp [hx])).blk_lt hb).1) hbl
  have T1 : ∀ x, x ∈ pre → RdI prog h1 .i32 x.2 x.1.tx := fun x hx => Rd.reads (L.txt x (by simp [hx])) C1.le R1
  have Nv1 : NF h1 a.block tv' := fun b k kb q1 q2 q3 => by
    rw [ev] at q1; simp only [blkOf, Option.some.injEq] at q1; subst q1
    rw [g1] at q2; cases q2
    obtain ⟨k0, p1, p2⟩ := C1.2.2.2.2 a.block kb hbl q3
    rw [hkl] at p1; cases p1
    have := H.2 _ _ hkl
    rcases g2 with g2 | ⟨y, k', s1, s2, s3, s4⟩
    · omega
    · rw [s4, p2]; exact Ntv y k' kl s1 s3 hkl
  obtain ⟨h3, e3, OL3, C3, z3, _⟩ := Own.store (P := prog) (C1.wf) OL1 (t := 24) (w := tv') (i := pre.length) (j := 4) asz24 O1.1.one (by omega) (by omega)
  have O3 := Ch.own C3 O1 Nv1.out
  have Nv3 := Nv1.ch C3 (fun b hb => (O1.1.blk_lt hb).1) hbl1
  have N3 : ∀ x, x ∈ pre → NF h3 a.block x.2 := fun x hx => (N1 x hx).ch C3 (fun b hb => ((T1 x hx).blk_lt hb).1) hbl1
  have T3 : ∀ x, x ∈ pre → RdI prog h3 .i32 x.2 x.1.tx := fun x hx => Ch.rd C3 (T1 x hx) (N1 x hx).out
  rw [cellsU_set (by omega), show (cellsU (u, tv)).set 4 tv' = cellsU ({ u with tx := u.tx ++ [r] }, tv') from rfl, show pre.flatMap cellsU ++ cellsU ({ u with tx := u.tx ++ [r] }, tv') = (pre ++ [({ u with tx := u.tx ++ [r] }, tv')]).flatMap cellsU by simp] at OL3
  have O3' : Own prog B h3 1 tv' (u.tx ++ [r]).length (vI (u.tx ++ [r])) := by
    simpa [vI] using O3
  refine ⟨tv', h1, h3, e1, e3, ⟨by simpa using OL3, fun x hx => ?_, fun x hx b k bl kb q1 q2 q3 q4 => ?_, fun p x e => ?_, .inr ⟨a, by simp⟩⟩, fun h0 hz K => ?_⟩
  · rcases List.mem_append.1 hx with hx | hx
    · exact T3 x hx
    · simp only [List.mem_singleton] at hx; subst hx; exact O3'.1
  · simp only [blkOf, Option.some.injEq] at q3; subst q3
    rcases List.mem_append.1 hx with hx | hx
    · exact N3 x hx b k kb q1 q2 q4
    · simp only [List.mem_singleton] at hx; subst hx; exact Nv3 b k kb q1 q2 q4
  · have hx : x = ({ u with tx := u.tx ++ [r] }, tv') := by
      have := congrArg List.getLast? e
      simp at this; exact this.symm
    subst hx; exact O3'
  · have K1 : Keeps h0 h1 := K.step C1 fun b hb => by rw [hz]; exact hb.2
    exact K1.step C3 (famB hz K1 hbl1 hBa)
end Go.Proofs.YtcnjmmffipjadaaDoor.Am
