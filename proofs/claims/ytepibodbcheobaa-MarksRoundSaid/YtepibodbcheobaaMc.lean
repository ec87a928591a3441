/- Marks: jumps and marks in memory; contracts of New, Push, by walks. -/
import Derived.Test.YtepibodbcheobaaMb
set_option linter.unusedSimpArgs false
set_option linter.unusedVariables false
set_option maxHeartbeats 4000000
set_option maxRecDepth 20000
namespace Go.Proofs.Ytepibodbcheobaa.Am
open Go Go.RowKit Go.Proofs.Try
theorem bsp {h : Heap} {a b : Int} : abuildSlice prog h 41 1 #[(0, .agg #[.int .i64 a, .int .i64 b])] = some (.slice (some ⟨h.size, 0, none⟩) 1 2, h.new 23 [.int .i64 a, .int .i64 b]) :=
  buildA2 underlying41 asz23 azero23 rfl rfl rfl
/-- Marks as they lie: m's own block b, the map r, the row of jumps. -/
structure MK (h : Heap) (b r : Nat) (jv : Value) (jl : List (Int × Int)) (ix : Int) (es : List (Int × Value)) : Prop where
  var : Var h b [.map (some r), jv, .int .i64 ix]
  own : OwnR prog h 2 jv jl.length (jl.flatMap cP)
  nb : blkOf jv ≠ some b
  obj : h.obj r = some (.map .i32 es)
  nget : h.get r = none
  lt : r < h.size
/-- What a deed may change. -/
def MD (h : Heap) (b : Nat) (jv : Value) (x : Nat) : Prop := x = b ∨ FamV h jv x
theorem FamV.congr {h : Heap} {v v' : Value} {x : Nat} (e : blkOf v' = blkOf v) (F : FamV h v' x) : FamV h v x := by
  obtain ⟨b, hb, f⟩ := F
  exact ⟨b, by rw [← e]; exact hb, f⟩
theorem MK.jlt {h : Heap} {b r : Nat} {jv : Value} {jl : List (Int × Int)} {ix : Int} {es : List (Int × Value)} (M : MK h b r jv jl ix es) : ∀ y, blkOf jv = some y → y < h.size := fun y e => (M.own.1.blk_lt e).1
theorem MK.notr {h : Heap} {b r : Nat} {jv : Value} {jl : List (Int × Int)} {ix : Int} {es : List (Int × Value)} (M : MK h b r jv jl ix es) : ¬ MD h b jv r := by
  rintro (e | ⟨_, _, k1, _, g1, _⟩)
  · obtain ⟨k, q1, _⟩ := M.var
    rw [← e, M.nget] at q1; cases q1
  · rw [M.nget] at g1; cases g1
theorem MK.keeps {h h' : Heap} {b r : Nat} {jv : Value} {jl : List (Int × Int)} {ix : Int} {es : List (Int × Value)} (M : MK h b r jv jl ix es) (H : Wf h) (K : Keeps h h') : MK h' b r jv jl ix es :=
  ⟨Keeps.var H K M.var, M.own.keeps K, M.nb, (K.obj M.lt).trans M.obj, (K.at M.lt).trans M.nget, Nat.lt_of_lt_of_le M.lt (Ch.le K)⟩
theorem MD.back {h h' : Heap} {b : Nat} {jv : Value} {D : Nat → Prop} (C : Ch D h h') (hlt : ∀ y, blkOf jv = some y → y < h.size) {x : Nat} (F : MD h' b jv x) : h.size ≤ x ∨ MD h b jv x := by
  rcases F with e | F
  · exact .inr (.inl e)
  · exact (FamV.back C hlt F).imp id .inr
def pushL (jl : List (Int × Int)) (pl pc : Int) : List (Int × Int) := (jl.filter (fun x => decide (x.1 ≠ pl)) ++ [(pl, pc)]).drop ((jl.filter (fun x => decide (x.1 ≠ pl)) ++ [(pl, pc)]).length - 100)
def pushS (jl : List (Int × Int)) (ix pl pc : Int) : List (Int × Int) × Int := if fitsB pl pc = true then (pushL jl pl pc, (pushL jl pl pc).length) else (jl, ix)
theorem pushL_len {jl : List (Int × Int)} {pl pc : Int} : (pushL jl pl pc).length ≤ 100 := by
  unfold pushL; rw [List.length_drop]; omega
theorem push_ok {b r : Nat} {jv : Value} {jl : List (Int × Int)} {ix pl pc : Int} {es : List (Int × Value)} {h : Heap} (M : MK h b r jv jl ix es) (hl : jl.length ≤ 100) :
    ACalls prog 13 #[pt b, posV pl pc] h (fun y h' => y = .tuple #[] ∧ ∃ jv', MK h' b r jv' (pushS jl ix pl pc).1 (pushS jl ix pl pc).2 es ∧ Ch (MD h b jv) h h' ∧ ∀ z, blkOf jv' = some z → h.size ≤ z ∨ blkOf jv = some z) := by
  refine acalls_of_W' func13 rfl (by kernel_rfl) (by kernel_rfl) (by simp [ntmps13]) ?_
  intro H
  have N1 := Keeps.new H 23 [.int .i64 pl, .int .i64 pc]
  have V1 := Var.new (e := 23) H (cs := [.int .i64 pl, .int .i64 pc])
  have hbl := M.var.lt H
  have hnr := M.notr
  have PN := fun {a : Addr} => ptr_some (P := prog) (a := a) underlying32
  have PA := fun {hh : Heap} (V : Var hh h.size [.int .i64 pl, .int .i64 pc]) => V.loadA (P := prog) (t := 23) underlying23 rfl asz23
  have ML := fun {hh : Heap} {x y z : Value} (V : Var hh b [x, y, z]) => V.load1 (P := prog) (t := 41) underlying41 rfl (i := 1)
  simp only [List.getElem?_cons_succ, List.getElem?_cons_zero] at ML
  simp only [wk, wt, wl, ↓reduceIte, Nat.reduceEqDiff, Nat.reduceAdd, Nat.zero_add, not_false_eq_true, not_true_eq_false, aeff_box, boxV_pos, pt, PN, PA V1]
  refine (fits_ok (pl := pl) (pc := pc)).use ?_
  rintro _ h2 ⟨rfl, K2⟩
  have K02 := N1.trans K2
  have V2 := Keeps.var (Ch.wf N1) K2 V1
  have M2 := M.keeps H K02
  have hz1 : (h.new 23 [.int .i64 pl, .int .i64 pc]).size = h.size + 1 := rfl
  cases hf : fitsB pl pc with
  | false =>
    simp only [wk, wt, wl, ↓reduceIte, Nat.reduceEqDiff, Nat.reduceAdd, Nat.zero_add, not_false_eq_true, not_true_eq_false, Bool.not_false]
    refine ⟨jv, by unfold pushS; rw [if_neg (by simp [hf])]; exact M2, K02.mono fun _ e => e.elim, fun z e => .inr e⟩
  | true =>
    have hps : pushS jl ix pl pc = (pushL jl pl pc, ((pushL jl pl pc).length : Int)) := by unfold pushS; rw [if_pos hf]
    rw [hps]
    simp only [wk, wt, wl, ↓reduceIte, Nat.reduceEqDiff, Nat.reduceAdd, Nat.zero_add, not_false_eq_true, not_true_eq_false, Bool.not_true, ML M2.var]
    have hne : blkOf jv ≠ some h.size := fun e => by have := M.jlt _ e; omega
    refine (deleteP_ok (pl := pl) (pc := pc) M2.own V2 hne (by omega)).use ?_
    rintro y h3 ⟨O3, hby, C3⟩
    obtain ⟨fl, hfl⟩ : ∃ fl, jl.filter (fun x => decide (x.1 ≠ pl)) = fl := ⟨_, rfl⟩
    have hfll : fl.length ≤ 100 := by rw [← hfl]; exact Nat.le_trans (List.length_filter_le _ _) hl
    have hpl : pushL jl pl pc = (fl ++ [(pl, pc)]).drop ((fl ++ [(pl, pc)]).length - 100) := by unfold pushL; rw [hfl]
    rw [hfl] at O3
    have C03 : Ch (MD h b jv) h h3 := (K02.mono (D' := MD h b jv) fun _ e => e.elim).then C3 fun x F => (FamV.back K02 M.jlt F).imp id .inr
    have VM3 := Ch.var (Ch.wf K2) C3 M2.var (M2.var.notFam M.nb)
    have VP3 := Ch.var (Ch.wf K2) C3 V2 (V2.notFam hne)
    have hnby : blkOf y ≠ some b := by rw [hby]; exact M.nb
    obtain ⟨h4, e4, VM4, C4, z4⟩ := VM3.store1 (P := prog) (t := 41) (v := y) (i := 1) (Ch.wf C3) asz41 (by simp) O3.1.one
    simp only [List.set_cons_succ, List.set_cons_zero] at VM4
    have O4 := Ch.ownR C4 O3 fun z e e' => hnby (by rw [e, e'])
    have hp4 : h.size ≠ b := by omega
    have VP4 := Ch.var (Ch.wf C3) C4 VP3 hp4
    have C04 : Ch (MD h b jv) h h4 := C03.then C4 fun x e => .inr (.inl e)
    have hle4 := Ch.le C04
    simp only [wk, wt, wl, ↓reduceIte, Nat.reduceEqDiff, Nat.reduceAdd, Nat.zero_add, not_false_eq_true, not_true_eq_false, e4]
    refine adraw_order [(0, false), (1, false), (2, false), (3, false), (4, false), (5, false), (6, true), (7, false), (8, false), (9, false), (10, false)] mixed (by kernel_rfl) (by kernel_rfl) (by kernel_rfl) (by with_reducible repeat (first | exact PF_retK | refine PF_thenK ?_ | refine PF_blockK ?_)) ?_
    obtain ⟨h5, e5, O5, z5, C5, _, _⟩ := O4.append1 (Ch.wf C4) (t := 41) underlying41 elem23 fits23 (by decide) (xs := [.int .i64 pl, .int .i64 pc]) rfl (by omega)
    have hbl4 : b < h4.size := by omega
    have hpl4 : h.size < h4.size := VP4.lt (Ch.wf C4)
    have hnpy : blkOf y ≠ some h.size := by rw [hby]; exact hne
    have C05 : Ch (MD h b jv) h h5 := C04.then C5 fun x F => (FamV.back C04 (by rw [hby]; exact M.jlt) F).imp id fun F => .inr (FamV.congr hby F)
    have VM5 := Ch.var (Ch.wf C4) C5 VM4 (VM4.notFam hnby)
    obtain ⟨v5, hv5⟩ : ∃ v5, Value.slice (some ⟨h4.size + 1, 0, none⟩) (fl.length + 1) 0 = v5 := ⟨_, rfl⟩
    have hb5 : blkOf v5 = some (h4.size + 1) := by rw [← hv5]; rfl
    rw [hv5] at O5 e5
    have e5' : fl.flatMap cP ++ [.int .i64 pl, .int .i64 pc] = (fl ++ [(pl, pc)]).flatMap cP := by simp [cP]
    have el5 : fl.length + 1 = (fl ++ [(pl, pc)]).length := by simp
    rw [e5', el5] at O5
    have hLl : (fl ++ [(pl, pc)]).length ≤ 101 := by simp; omega
    obtain ⟨L, hL⟩ : ∃ L, fl ++ [(pl, pc)] = L := ⟨_, rfl⟩
    rw [hL] at O5 hpl hLl
    obtain ⟨h6, e6, VM6, C6, z6⟩ := VM5.store1 (P := prog) (t := 41) (v := v5) (i := 1) (Ch.wf C5) asz41 (by simp) O5.1.one
    simp only [List.set_cons_succ, List.set_cons_zero] at VM6
    have hn5 : blkOf v5 ≠ some b := by rw [hb5]; intro e; cases e; omega
    have O6 := Ch.ownR C6 O5 fun z e e' => hn5 (by rw [e, e'])
    have C06 : Ch (MD h b jv) h h6 := C05.then C6 fun x e => .inr (.inl e)
    simp only [wk, wt, wl, ↓reduceIte, Nat.reduceEqDiff, Nat.reduceAdd, Nat.zero_add, not_false_eq_true, not_true_eq_false, dK_t, ML VM4, PA VP4, bsp, e5, e6]
    refine ⟨(Keeps.new (Ch.wf C4) 23 _).reads (Ch.wf C4), ?_⟩
    refine adraw_order [(0, false), (1, false), (2, false), (3, false), (4, false), (5, false), (6, false), (7, false), (8, false), (9, false), (10, false), (11, false), (12, false), (13, false), (14, false), (15, false)] mixed (by kernel_rfl) (by kernel_rfl) (by kernel_rfl) (by with_reducible repeat (first | exact PF_retK | refine PF_thenK ?_ | refine PF_blockK ?_)) ?_
    have M0 := imax_spec 0 ((L.length : Int) - 100)
    obtain ⟨k, hk⟩ : ∃ k : Nat, imax 0 ((L.length : Int) - 100) = (k : Int) := ⟨(imax 0 ((L.length : Int) - 100)).toNat, by omega⟩
    have hkk : k = L.length - 100 := by omega
    have w1 : IntKind.i64.wrap ((L.length : Int) - 100) = (L.length : Int) - 100 := IntWalk.i64_in _ (by omega)
    have S1 := Rd.sliceLo O6.1 underlying41 asz23 (q := .i64) (i := (k : Int)) (by omega) (by omega)
    simp only [Int.toNat_natCast] at S1
    have LL := Rd.len O6.1 underlying41
    have O7 := O6.part (L := k) (H := L.length) (by omega) (Nat.le_refl _)
    have hP : ((L.flatMap cP).drop (k * 2)).take ((L.length - k) * 2) = (pushL jl pl pc).flatMap cP := by
      rw [hpl, ← hkk, ← fm_drop cP_len (by omega)]
      exact List.take_of_length_le (by rw [fm_len cP_len, List.length_drop]; omega)
    have hlen7 : L.length - k = (pushL jl pl pc).length := by rw [hpl, ← hkk, List.length_drop]
    rw [hP, hlen7] at O7
    obtain ⟨v7, hv7⟩ : ∃ v7, sliceV v5 2 k L.length = v7 := ⟨_, rfl⟩
    have hb7 : blkOf v7 = some (h4.size + 1) := by rw [← hv7, sliceV_blk, hb5]
    rw [hv7] at O7 S1
    obtain ⟨h7, e7, VM7, C7, z7⟩ := VM6.store1 (P := prog) (t := 41) (v := v7) (i := 1) (Ch.wf C6) asz41 (by simp) O7.1.one
    simp only [List.set_cons_succ, List.set_cons_zero] at VM7
    have hn7 : blkOf v7 ≠ some b := by rw [hb7]; intro e; cases e; omega
    have O8 := Ch.ownR C7 O7 fun z e e' => hn7 (by rw [e, e'])
    have C07 : Ch (MD h b jv) h h7 := C06.then C7 fun x e => .inr (.inl e)
    simp only [wk, wt, wl, ↓reduceIte, Nat.reduceEqDiff, Nat.reduceAdd, Nat.zero_add, not_false_eq_true, not_true_eq_false, dK_t, ML VM6, LL, w1, mxV, hk, S1, e7]
    have LL8 := Rd.len O8.1 underlying41
    obtain ⟨h8, e8, VM8, C8, z8⟩ := VM7.store1 (P := prog) (t := 3) (v := .int .i64 (pushL jl pl pc).length) (i := 2) (Ch.wf C7) asz3 (by simp) rfl
    simp only [List.set_cons_succ, List.set_cons_zero] at VM8
    have O9 := Ch.ownR C8 O8 fun z e e' => hn7 (by rw [e, e'])
    have C08 : Ch (MD h b jv) h h8 := C07.then C8 fun x e => .inr (.inl e)
    simp only [wk, wt, wl, ↓reduceIte, Nat.reduceEqDiff, Nat.reduceAdd, Nat.zero_add, not_false_eq_true, not_true_eq_false, ML VM7, LL8, e8]
    exact ⟨v7, ⟨VM8, O9, hn7, (C08.obj M.lt hnr).trans M.obj, (C08.at M.lt hnr).trans M.nget, Nat.lt_of_lt_of_le M.lt (Ch.le C08)⟩, C08, fun z e => .inl (by rw [hb7] at e; cases e; omega)⟩
end Go.Proofs.Ytepibodbcheobaa.Am
