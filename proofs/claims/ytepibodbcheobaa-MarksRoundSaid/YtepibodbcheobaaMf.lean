/- Marks: what a law holds of the marks it made (St), step by step. -/
import Derived.Test.YtepibodbcheobaaMe
set_option linter.unusedSimpArgs false
set_option linter.unusedVariables false
set_option maxHeartbeats 4000000
set_option maxRecDepth 20000
namespace Go.Proofs.Ytepibodbcheobaa.Am
open Go Go.RowKit Go.Proofs.Try
/-- All memory of the marks is newer than block n. -/
def Fr (n : Nat) (h : Heap) (b : Nat) (jv : Value) : Prop := (∀ k, h.get b = some k → n ≤ k.fam) ∧ ∀ z k, blkOf jv = some z → h.get z = some k → n ≤ k.fam
theorem Fr.md {n : Nat} {h : Heap} {b x : Nat} {jv : Value} {cs : List Value} (F : Fr n h b jv) (H : Wf h) (V : Var h b cs) (m : MD h b jv x) : n ≤ x := by
  rcases m with rfl | ⟨z, hz, k1, k2, g1, g2, e⟩
  · obtain ⟨k, g, _⟩ := V
    exact Nat.le_trans (F.1 k g) (H.2 _ _ g)
  · have := F.2 z k2 hz g2
    have := H.2 _ _ g1
    omega
theorem Fr.ch {n : Nat} {h h' : Heap} {b : Nat} {jv jv' : Value} {D : Nat → Prop} (F : Fr n h b jv) (C : Ch D h h') (hD : ∀ y, D y → MD h b jv y ∨ h.get y = none) (hn : n ≤ h.size) (hb : b < h.size) (hj : ∀ z, blkOf jv' = some z → h.size ≤ z ∨ blkOf jv = some z) (jlt : ∀ y, blkOf jv = some y → y < h.size) : Fr n h' b jv' := by
  refine ⟨fun k g => ?_, fun z k hz g => ?_⟩
  · obtain ⟨k0, g0, e⟩ := C.2.2.2.2.1 b k hb g
    rw [e]; exact F.1 k0 g0
  · have old : ∀ w, blkOf jv = some w → w = z → n ≤ k.fam := fun w hw e => by
      subst e
      obtain ⟨k0, g0, e⟩ := C.2.2.2.2.1 w k (jlt w hw) g
      rw [e]; exact F.2 w k0 hw g0
    rcases hj z hz with hge | hw
    · rcases C.2.2.2.1 z k hge g with h1 | ⟨y, k0, hy, g0, e⟩
      · omega
      · rw [e]
        rcases hD y hy with (rfl | ⟨w, hw, k1, k2, g1, g2, e2⟩) | hno
        · exact F.1 k0 g0
        · rw [g0] at g1; cases g1
          rw [e2]; exact F.2 w k2 hw g2
        · rw [hno] at g0; cases g0
    · exact old z hw rfl
/-- The marks that a law made behind memory h0, with its other places. -/
structure St (h0 h : Heap) (b r : Nat) (jv : Value) (jl : List (Int × Int)) (ix : Int) (es : List (Int × Value)) (L : List (Nat × List Value)) : Prop where
  m : MK h b r jv jl ix es
  fine : Fine jl ix
  fr : Fr h0.size h b jv
  frr : h0.size ≤ r
  loc : Loc2 h b jv L
  k : Keeps h0 h
theorem St.wf {h0 h : Heap} {b r : Nat} {jv : Value} {jl : List (Int × Int)} {ix : Int} {es : List (Int × Value)} {L : List (Nat × List Value)} (S : St h0 h b r jv jl ix es L) : Wf h := Ch.wf S.k
theorem St.begin {h0 h h' : Heap} {b r : Nat} (K0 : Keeps h0 h) (K : Keeps h h') (M : MK h' b r (.slice none 0 0) [] 0 []) (hb : h.size ≤ b) (hr : h.size ≤ r) : St h0 h' b r (.slice none 0 0) [] 0 [] [] := by
  have hle := Ch.le K0
  refine ⟨M, ⟨by decide, by omega, by decide⟩, ⟨fun k g => ?_, fun z k e => by cases e⟩, by omega, (fun p hp => by cases hp), K0.trans K⟩
  rcases K.2.2.2.1 b k hb g with h1 | ⟨_, _, e, _⟩
  · omega
  · exact e.elim
theorem St.step {h0 h h' : Heap} {b r : Nat} {jv jv' : Value} {jl jl' : List (Int × Int)} {ix ix' : Int} {es es' : List (Int × Value)} {L : List (Nat × List Value)} (S : St h0 h b r jv jl ix es L)
    (M : MK h' b r jv' jl' ix' es') (F : Fine jl' ix') (C : Ch (MD h b jv) h h') (hn : ∀ z, blkOf jv' = some z → h.size ≤ z ∨ blkOf jv = some z) : St h0 h' b r jv' jl' ix' es' L :=
  ⟨M, F, S.fr.ch C (fun _ e => .inl e) (Ch.le S.k) (S.m.var.lt S.wf) hn S.m.jlt, S.frr, S.loc.step S.wf C hn, S.k.step C fun x e => S.fr.md S.wf S.m.var e⟩
theorem St.keeps {h0 h h' : Heap} {b r : Nat} {jv : Value} {jl : List (Int × Int)} {ix : Int} {es : List (Int × Value)} {L : List (Nat × List Value)} (S : St h0 h b r jv jl ix es L) (K : Keeps h h') : St h0 h' b r jv jl ix es L :=
  ⟨S.m.keeps S.wf K, S.fine, S.fr.ch K (fun _ e => e.elim) (Ch.le S.k) (S.m.var.lt S.wf) (fun z e => .inr e) S.m.jlt, S.frr, S.loc.keeps S.wf K, S.k.trans K⟩
/-- A mark was set. -/
theorem St.put {h0 h h' : Heap} {b r : Nat} {jv : Value} {jl : List (Int × Int)} {ix : Int} {es es' : List (Int × Value)} {L : List (Nat × List Value)} (S : St h0 h b r jv jl ix es L) (M : MK h' b r jv jl ix es') (C : Ch (fun x => x = r) h h') : St h0 h' b r jv jl ix es' L := by
  have nr : ∀ {p : Nat} {cs : List Value}, Var h p cs → p ≠ r := fun V e => by
    subst e
    obtain ⟨k, g, _⟩ := V
    rw [S.m.nget] at g; cases g
  refine ⟨M, S.fine, S.fr.ch C (fun y e => .inr (by subst e; exact S.m.nget)) (Ch.le S.k) (S.m.var.lt S.wf) (fun z e => .inr e) S.m.jlt, S.frr, fun p hp => ?_, S.k.step C fun x e => by subst e; exact S.frr⟩
  obtain ⟨h1, h2, h3⟩ := S.loc p hp
  exact ⟨Ch.var S.wf C h1 (nr h1), h2, h3⟩
/-- A place more. -/
theorem St.pos {h0 h : Heap} {b r : Nat} {jv : Value} {jl : List (Int × Int)} {ix : Int} {es : List (Int × Value)} {L : List (Nat × List Value)} (S : St h0 h b r jv jl ix es L) (a c : Int) :
    ∃ h2, storeV prog (h.new 23 [.int .i64 0, .int .i64 0]) 23 (.pointer (some ⟨h.size, 0, none⟩)) (.agg #[.int .i64 a, .int .i64 c]) = some (undef, h2) ∧ St h0 h2 b r jv jl ix es ((h.size, [.int .i64 a, .int .i64 c]) :: L) := by
  obtain ⟨h2, e2, V2, K2, z2⟩ := newPos S.wf a c
  have S2 := S.keeps K2
  refine ⟨h2, e2, ⟨S2.m, S2.fine, S2.fr, S2.frr, S2.loc.cons V2 (fun e => ?_) (fun e => ?_), S2.k⟩⟩
  · have := S.m.var.lt S.wf; omega
  · have := S.m.jlt _ e; omega
theorem St.load {h0 h : Heap} {b r : Nat} {jv : Value} {jl : List (Int × Int)} {ix : Int} {es : List (Int × Value)} {L : List (Nat × List Value)} (S : St h0 h b r jv jl ix es L) {p : Nat} {x y : Int} (hp : (p, [Value.int .i64 x, Value.int .i64 y]) ∈ L) : aload prog h 23 ⟨p, 0, none⟩ = some (.agg #[.int .i64 x, .int .i64 y]) :=
  (S.loc _ hp).1.loadA (P := prog) (t := 23) underlying23 rfl asz23
theorem St.push {h0 h : Heap} {b r : Nat} {jv : Value} {jl : List (Int × Int)} {ix : Int} {es : List (Int × Value)} {L : List (Nat × List Value)} (S : St h0 h b r jv jl ix es L) (pl pc : Int) :
    ACalls prog 13 #[pt b, posV pl pc] h (fun y h' => y = .tuple #[] ∧ ∃ jv', St h0 h' b r jv' (pushS jl ix pl pc).1 (pushS jl ix pl pc).2 es L) :=
  (push_ok (pl := pl) (pc := pc) S.m S.fine.1).mono fun y h' ⟨e, jv', M, C, hn⟩ => ⟨e, jv', S.step M (pushS_fine S.fine) C hn⟩
theorem backI_fine {jl : List (Int × Int)} {ix pl pc : Int} (F : Fine jl ix) : Fine (backS jl ix pl pc).1 (backI jl ix pl pc) := by
  have F2 := backS_fine (pl := pl) (pc := pc) F
  obtain ⟨h1, h2, h3⟩ := F2
  unfold backI
  split
  · exact ⟨h1, by omega, by omega⟩
  · exact ⟨h1, by omega, by omega⟩
theorem St.back {h0 h : Heap} {b r : Nat} {jv : Value} {jl : List (Int × Int)} {ix : Int} {es : List (Int × Value)} {L : List (Nat × List Value)} (S : St h0 h b r jv jl ix es L) (pl pc : Int) :
    ACalls prog 14 #[pt b, posV pl pc] h (fun y h' => y = backV jl ix pl pc ∧ ∃ jv', St h0 h' b r jv' (backS jl ix pl pc).1 (backI jl ix pl pc) es L) :=
  (back_ok (pl := pl) (pc := pc) S.m S.fine).mono fun y h' ⟨e, jv', M, C, hn⟩ => ⟨e, jv', S.step M (backI_fine S.fine) C hn⟩
theorem St.forth {h0 h : Heap} {b r : Nat} {jv : Value} {jl : List (Int × Int)} {ix : Int} {es : List (Int × Value)} {L : List (Nat × List Value)} (S : St h0 h b r jv jl ix es L) :
    ACalls prog 15 #[pt b] h (fun y h' => y = forthV jl ix ∧ St h0 h' b r jv jl (forthI jl ix) es L) :=
  (forth_ok S.m S.fine).mono fun y h' ⟨e, M, C⟩ => ⟨e, S.step M (forth_fine S.fine) C fun z e => .inr e⟩
theorem St.set {h0 h : Heap} {b r : Nat} {jv : Value} {jl : List (Int × Int)} {ix pl pc name : Int} {es : List (Int × Value)} {L : List (Nat × List Value)} (S : St h0 h b r jv jl ix es L) (h1 : 97 ≤ name) (h2 : name ≤ 122) (hf : fitsB pl pc = true) :
    ACalls prog 16 #[pt b, .int .i32 name, posV pl pc] h (fun y h' => y = .int .i64 0 ∧ St h0 h' b r jv jl ix (putE es name (posV pl pc)) L) :=
  (set_ok S.m h1 h2 hf).mono fun y h' ⟨e, M, C⟩ => ⟨e, S.put M C⟩
theorem St.setA {h0 h : Heap} {b r : Nat} {jv : Value} {jl : List (Int × Int)} {ix pl pc : Int} {es : List (Int × Value)} {L : List (Nat × List Value)} (S : St h0 h b r jv jl ix es L) (hf : fitsB pl pc = true) :
    ACalls prog 16 #[pt b, .int .i32 65, posV pl pc] h (fun y h' => y = .int .i64 1 ∧ St h0 h' b r jv jl ix es L) :=
  (setA_ok S.m hf).mono fun y h' ⟨e, K⟩ => ⟨e, S.keeps K⟩
theorem St.new {h0 h : Heap} (K0 : Keeps h0 h) : ACalls prog 12 #[] h (fun y h' => ∃ b r jv, y = pt b ∧ St h0 h' b r jv [] 0 [] []) :=
  new_ok.mono fun y h' ⟨b, r, jv, e, M, K, hb, hj, _, hr⟩ => ⟨b, r, jv, e, by subst hj; exact St.begin K0 K M hb hr⟩
end Go.Proofs.Ytepibodbcheobaa.Am
