/- Marks: contracts of Forth and Set, and of chapter 6's examples (awake), by walks. -/
import Derived.Test.YtepibodbcheobaaMd
set_option linter.unusedSimpArgs false
set_option linter.unusedVariables false
set_option maxHeartbeats 4000000
set_option maxRecDepth 20000
namespace Go.Proofs.Ytepibodbcheobaa.Am
open Go Go.RowKit Go.Proofs.Try
def forthV (jl : List (Int × Int)) (ix : Int) : Value := if (jl.length : Int) ≤ ix + 1 then moveV ((0, 0), false) else moveV (jl.getD (ix + 1).toNat (0, 0), true)
def forthI (jl : List (Int × Int)) (ix : Int) : Int := if (jl.length : Int) ≤ ix + 1 then ix else ix + 1
theorem forth_fine {jl : List (Int × Int)} {ix : Int} (F : Fine jl ix) : Fine jl (forthI jl ix) := by
  unfold forthI
  obtain ⟨h1, h2, h3⟩ := F
  split
  · exact ⟨h1, h2, h3⟩
  · exact ⟨h1, by omega, by omega⟩
theorem forth_ok {b r : Nat} {jv : Value} {jl : List (Int × Int)} {ix : Int} {es : List (Int × Value)} {h : Heap} (M : MK h b r jv jl ix es) (F : Fine jl ix) :
    ACalls prog 15 #[pt b] h (fun y h' => y = forthV jl ix ∧ MK h' b r jv jl (forthI jl ix) es ∧ Ch (MD h b jv) h h') := by
  refine acalls_of_W' func15 rfl (by kernel_rfl) (by kernel_rfl) (by simp [ntmps15]) ?_
  intro H
  have N1 := Keeps.new H 23 [.int .i64 0, .int .i64 0]
  have VR := Var.new (e := 23) H (cs := [.int .i64 0, .int .i64 0])
  have M1 := M.keeps H N1
  have hbl := M.var.lt H
  have hrl := M.lt
  have hrn : r ≠ b := fun e => M.notr (.inl e)
  have hjr : blkOf jv ≠ some h.size := fun e => by have := M.jlt _ e; omega
  have PN := fun {a : Addr} => ptr_some (P := prog) (a := a) underlying32
  have RA := fun {hh : Heap} {x y : Int} (V : Var hh h.size [.int .i64 x, .int .i64 y]) => V.loadA (P := prog) (t := 23) underlying23 rfl asz23
  have ML := fun {hh : Heap} {x y z : Value} (V : Var hh b [x, y, z]) => V.load1 (P := prog) (t := 41) underlying41 rfl (i := 1)
  have MI := fun {hh : Heap} {x y z : Value} (V : Var hh b [x, y, z]) => V.load1 (P := prog) (t := 3) underlying3 rfl (i := 2)
  simp only [List.getElem?_cons_succ, List.getElem?_cons_zero] at ML MI
  have L1 := Rd.len M1.own.1 underlying41
  obtain ⟨f1, f2, f3⟩ := F
  have w1 : IntKind.i64.wrap (ix + 1) = ix + 1 := IntWalk.i64_in _ (by omega)
  simp only [wk, wt, wl, ↓reduceIte, Nat.reduceEqDiff, Nat.reduceAdd, Nat.zero_add, not_false_eq_true, not_true_eq_false, pt]
  generalize h.new 23 [.int .i64 0, .int .i64 0] = h1 at *
  refine adraw_order [(0, false), (1, false), (2, false), (3, false), (4, false), (5, false), (6, false), (7, false), (8, false), (9, false), (10, false), (11, false), (12, false), (13, false), (14, false)] mixed (by kernel_rfl) (by kernel_rfl) (by kernel_rfl) (by with_reducible repeat (first | exact PF_retK | refine PF_thenK ?_ | refine PF_blockK ?_)) ?_
  by_cases c1 : (jl.length : Int) ≤ ix + 1
  · have d1 := decide_eq_true c1
    obtain ⟨h9, e9, V9, C9, z9⟩ := VR.store (P := prog) (t := 23) (v := .agg #[.int .i64 0, .int .i64 0]) (i := 0) (Ch.wf N1) asz23 (by simp [Value.cells]) (by simp [Value.cells, one])
    simp only [Value.cells, over_all (xs := [.int .i64 0, .int .i64 0]) (vs := [.int .i64 0, .int .i64 0]) rfl] at V9
    have K9 := N1.step C9 fun b e => by omega
    simp only [wk, wt, wl, ↓reduceIte, Nat.reduceEqDiff, Nat.reduceAdd, Nat.zero_add, not_false_eq_true, not_true_eq_false, PN, MI M1.var, ML M1.var, L1, w1, d1, build_p0, e9, RA V9]
    refine ⟨by unfold forthV; rw [if_pos c1]; rfl, ?_, K9.mono fun _ e => e.elim⟩
    unfold forthI; rw [if_pos c1]
    exact M.keeps H K9
  · have d1 := decide_eq_false c1
    obtain ⟨k, hk⟩ : ∃ k : Nat, ix + 1 = (k : Int) := ⟨(ix + 1).toNat, by omega⟩
    have hkl : k < jl.length := by omega
    obtain ⟨x, hx⟩ : ∃ x, jl[k]? = some x := ⟨jl[k], List.getElem?_eq_getElem hkl⟩
    have w2 : IntKind.i64.wrap (ix + 1) = (k : Int) := by rw [w1]; exact hk
    have d2 : decide ((jl.length : Int) ≤ (k : Int)) = false := by rw [← hk]; exact d1
    obtain ⟨h8, e8, V8, C8, z8⟩ := M1.var.store1 (P := prog) (t := 3) (v := .int .i64 (k : Int)) (i := 2) (Ch.wf N1) asz3 (by simp) rfl
    simp only [List.set_cons_succ, List.set_cons_zero] at V8
    have O8 := Ch.ownR C8 M1.own fun z e e' => M1.nb (by rw [e, e'])
    have VR8 := Ch.var (Ch.wf N1) C8 VR (by omega)
    have R8 : PR2 h8 jv jl := O8.1
    have IX := Rd.index R8 underlying41 asz23 (q := .i64) (i := (k : Int)) (by omega) (by omega)
    simp only [Int.toNat_natCast] at IX
    obtain ⟨h9, e9, V9, C9, z9⟩ := VR8.store (P := prog) (t := 23) (v := posV x.1 x.2) (i := 0) (Ch.wf C8) asz23 (by simp [posV, Value.cells]) (by simp [posV, Value.cells, one])
    have hxs : (posV x.1 x.2).cells.toList = [.int .i64 x.1, .int .i64 x.2] := rfl
    rw [hxs, over_all (xs := [.int .i64 0, .int .i64 0]) (vs := [.int .i64 x.1, .int .i64 x.2]) rfl] at V9
    have C1 : Ch (MD h b jv) h h1 := N1.mono fun _ e => e.elim
    have C08 : Ch (MD h b jv) h h8 := C1.then C8 fun x e => .inr (.inl e)
    have C09 : Ch (MD h b jv) h h9 := C08.then C9 fun x e => .inl (by omega)
    simp only [wk, wt, wl, ↓reduceIte, Nat.reduceEqDiff, Nat.reduceAdd, Nat.zero_add, not_false_eq_true, not_true_eq_false, PN, MI M1.var, ML M1.var, L1, w2, d2, e8]
    refine adraw_order [(0, false), (1, false), (2, false), (3, false), (4, false), (5, false), (6, false), (7, false), (8, false), (9, false), (10, false), (11, false)] mixed (by kernel_rfl) (by kernel_rfl) (by kernel_rfl) (by with_reducible repeat (first | exact PF_retK | refine PF_thenK ?_ | refine PF_blockK ?_)) ?_
    simp only [wk, wt, wl, ↓reduceIte, Nat.reduceEqDiff, Nat.reduceAdd, Nat.zero_add, not_false_eq_true, not_true_eq_false, dK_t, ML V8, MI V8, IX, R8.flds hx, e9]
    simp only [wk, wt, wl, ↓reduceIte, Nat.reduceEqDiff, Nat.reduceAdd, Nat.zero_add, not_false_eq_true, not_true_eq_false, RA V9]
    have hgd : jl.getD (ix + 1).toNat (0, 0) = x := by rw [hk]; simp [List.getD, hx]
    refine ⟨by unfold forthV; rw [if_neg c1, hgd]; rfl, ?_, C09⟩
    unfold forthI; rw [if_neg c1, hk]
    exact ⟨Ch.var (Ch.wf C8) C9 V8 (by omega), Ch.ownR C9 O8 fun z e e' => hjr (by rw [← e']; exact e), M.nb, (C9.obj (by have := Ch.le C08; omega) (by omega)).trans ((C8.obj (by have := M1.lt; omega) (by omega)).trans M1.obj), (C9.at (by have := Ch.le C08; omega) (by omega)).trans ((C8.at (by have := M1.lt; omega) (by omega)).trans M1.nget), by have := Ch.le C09; omega⟩
theorem oput_ch {h : Heap} (H : Wf h) {r : Nat} {ao : AObj} : Ch (fun x => x = r) h (h.oput r ao) := by
  refine ⟨H, Nat.le_refl _, fun _ _ _ => rfl, fun b k hb hk => ?_, fun b k _ hk => ⟨k, hk, rfl⟩, fun x hx hn => ?_⟩
  · have : h.get b = some k := hk
    rw [H.1 b hb] at this; cases this
  · show (if x = r then _ else h.obj x) = h.obj x
    rw [if_neg hn]
theorem set_ok {b r : Nat} {jv : Value} {jl : List (Int × Int)} {ix pl pc name : Int} {es : List (Int × Value)} {h : Heap} (M : MK h b r jv jl ix es) (h1 : 97 ≤ name) (h2 : name ≤ 122) (hf : fitsB pl pc = true) :
    ACalls prog 16 #[pt b, .int .i32 name, posV pl pc] h (fun y h' => y = .int .i64 0 ∧ MK h' b r jv jl ix (putE es name (posV pl pc)) ∧ Ch (fun x => x = r) h h') := by
  refine acalls_of_W' func16 rfl (by kernel_rfl) (by kernel_rfl) (by simp [ntmps16]) ?_
  intro H
  have N1 := Keeps.new H 23 [.int .i64 pl, .int .i64 pc]
  have V1 := Var.new (e := 23) H (cs := [.int .i64 pl, .int .i64 pc])
  have hbl := M.var.lt H
  have PN := fun {a : Addr} => ptr_some (P := prog) (a := a) underlying32
  have PA := fun {hh : Heap} (V : Var hh h.size [.int .i64 pl, .int .i64 pc]) => V.loadA (P := prog) (t := 23) underlying23 rfl asz23
  have MM := fun {hh : Heap} {x y z : Value} (V : Var hh b [x, y, z]) => V.load1 (P := prog) (t := 58) underlying58 rfl (i := 0)
  simp only [List.getElem?_cons_zero] at MM
  have d1 : decide (97 ≤ name) = true := decide_eq_true h1
  have d2 : decide (name ≤ 122) = true := decide_eq_true h2
  simp only [wk, wt, wl, ↓reduceIte, Nat.reduceEqDiff, Nat.reduceAdd, Nat.zero_add, not_false_eq_true, not_true_eq_false, aeff_box, boxV_pos, pt, PN, PA V1, d1, d2]
  refine (fits_ok (pl := pl) (pc := pc)).use ?_
  rintro _ h3 ⟨rfl, K3⟩
  have K03 := N1.trans K3
  have M3 := M.keeps H K03
  have V3 := Keeps.var (Ch.wf N1) K3 V1
  rw [hf]
  simp only [wk, wt, wl, ↓reduceIte, Nat.reduceEqDiff, Nat.reduceAdd, Nat.zero_add, not_false_eq_true, not_true_eq_false, Bool.not_true]
  refine adraw_order [(0, false), (1, false), (2, false), (3, false), (4, false), (5, false), (6, false)] mixed (by kernel_rfl) (by kernel_rfl) (by kernel_rfl) (by with_reducible repeat (first | exact PF_retK | refine PF_thenK ?_ | refine PF_blockK ?_)) ?_
  have um : amapUpdate prog h3 58 (.map (some r)) (.int .i32 name) (.agg #[.int .i64 pl, .int .i64 pc]) = some (undef, h3.oput r (.map .i32 (putE es name (posV pl pc)))) := by
    simp [amapUpdate, mapKind, mapAt, M3.obj, posV]
  have C4 := oput_ch (Ch.wf K3) (r := r) (ao := .map .i32 (putE es name (posV pl pc)))
  simp only [wk, wt, wl, ↓reduceIte, Nat.reduceEqDiff, Nat.reduceAdd, Nat.zero_add, not_false_eq_true, not_true_eq_false, dK_t, MM M3.var, PA V3, um]
  refine ⟨⟨M3.var, M3.own, M3.nb, ?_, M3.nget, M3.lt⟩, (K03.mono (D' := fun x => x = r) fun _ e => e.elim).then C4 fun x e => .inr e⟩
  show (if r = r then _ else _) = _
  rw [if_pos rfl]
theorem setA_ok {b r : Nat} {jv : Value} {jl : List (Int × Int)} {ix pl pc : Int} {es : List (Int × Value)} {h : Heap} (M : MK h b r jv jl ix es) (hf : fitsB pl pc = true) :
    ACalls prog 16 #[pt b, .int .i32 65, posV pl pc] h (fun y h' => y = .int .i64 1 ∧ Keeps h h') := by
  refine acalls_of_W' func16 rfl (by kernel_rfl) (by kernel_rfl) (by simp [ntmps16]) ?_
  intro H
  have N1 := Keeps.new H 23 [.int .i64 pl, .int .i64 pc]
  have V1 := Var.new (e := 23) H (cs := [.int .i64 pl, .int .i64 pc])
  have hbl := M.var.lt H
  have PN := fun {a : Addr} => ptr_some (P := prog) (a := a) underlying32
  have PA := fun {hh : Heap} (V : Var hh h.size [.int .i64 pl, .int .i64 pc]) => V.loadA (P := prog) (t := 23) underlying23 rfl asz23
  have MM := fun {hh : Heap} {x y z : Value} (V : Var hh b [x, y, z]) => V.load1 (P := prog) (t := 58) underlying58 rfl (i := 0)
  simp only [List.getElem?_cons_zero] at MM
  have d1 : decide ((97 : Int) ≤ 65) = false := rfl
  have d2 : decide ((65 : Int) < 32) = false := rfl
  have d3 : decide ((126 : Int) < 65) = false := rfl
  have cv : ∀ hh, aconv prog hh 21 9 (.int .i32 65) = some (.string ⟨#[65]⟩) := fun hh => by
    have : Utf8.encode 65 = ⟨#[65]⟩ := by kernel_rfl
    simp [aconv, underlying21, underlying9, this]
  simp only [wk, wt, wl, ↓reduceIte, Nat.reduceEqDiff, Nat.reduceAdd, Nat.zero_add, not_false_eq_true, not_true_eq_false, aeff_box, boxV_pos, pt, PN, PA V1, d1]
  refine (fits_ok (pl := pl) (pc := pc)).use ?_
  rintro _ h3 ⟨rfl, K3⟩
  rw [hf]
  simp only [wk, wt, wl, ↓reduceIte, Nat.reduceEqDiff, Nat.reduceAdd, Nat.zero_add, not_false_eq_true, not_true_eq_false, Bool.not_true, Bool.not_false, d2, d3, cv, call_contains]
  refine contains_ok.use_pure ?_
  have hc : decide (0 ≤ Lib.indexByte (ByteArray.data ⟨#[96, 46, 94, 91, 93, 60, 62]⟩).toList 65) = false := by decide
  simp only [wk, wt, wl, ↓reduceIte, Nat.reduceEqDiff, Nat.reduceAdd, Nat.zero_add, not_false_eq_true, not_true_eq_false, hc, Bool.not_false]
  exact N1.trans K3
/-- Local places. -/
def Loc2 (h : Heap) (b : Nat) (jv : Value) (L : List (Nat × List Value)) : Prop := ∀ p, p ∈ L → Var h p.1 p.2 ∧ p.1 ≠ b ∧ blkOf jv ≠ some p.1
theorem Loc2.step {h h' : Heap} {b : Nat} {jv jv' : Value} {L : List (Nat × List Value)} (H : Wf h) (C : Ch (MD h b jv) h h') (hn : ∀ z, blkOf jv' = some z → h.size ≤ z ∨ blkOf jv = some z) (X : Loc2 h b jv L) : Loc2 h' b jv' L := fun p hp => by
  obtain ⟨h1, h2, h3⟩ := X p hp
  refine ⟨Ch.var H C h1 fun e => e.elim h2 (h1.notFam h3), h2, fun e => ?_⟩
  rcases hn _ e with g | g
  · have := h1.lt H; omega
  · exact h3 g
theorem Loc2.keeps {h h' : Heap} {b : Nat} {jv : Value} {L : List (Nat × List Value)} (H : Wf h) (K : Keeps h h') (X : Loc2 h b jv L) : Loc2 h' b jv L := fun p hp => by
  obtain ⟨h1, h2, h3⟩ := X p hp
  exact ⟨Keeps.var H K h1, h2, h3⟩
theorem Loc2.cons {h : Heap} {b x : Nat} {cs : List Value} {jv : Value} {L : List (Nat × List Value)} (V : Var h x cs) (h1 : x ≠ b) (h2 : blkOf jv ≠ some x) (X : Loc2 h b jv L) : Loc2 h b jv ((x, cs) :: L) := fun p hp => by
  rcases List.mem_cons.1 hp with rfl | hp
  · exact ⟨V, h1, h2⟩
  · exact X p hp
theorem newPos {h : Heap} (H : Wf h) (a c : Int) : ∃ h2, storeV prog (h.new 23 [.int .i64 0, .int .i64 0]) 23 (.pointer (some ⟨h.size, 0, none⟩)) (.agg #[.int .i64 a, .int .i64 c]) = some (undef, h2) ∧ Var h2 h.size [.int .i64 a, .int .i64 c] ∧ Keeps h h2 ∧ h2.size = h.size + 1 := by
  have N2 := Keeps.new H 23 [.int .i64 0, .int .i64 0]
  have X2 := Var.new (e := 23) H (cs := [.int .i64 0, .int .i64 0])
  obtain ⟨h3, e3, X3, C3, z3⟩ := X2.store (P := prog) (t := 23) (v := .agg #[.int .i64 a, .int .i64 c]) (i := 0) (Ch.wf N2) asz23 (by simp [Value.cells]) (by simp [Value.cells, one])
  simp only [Value.cells, over_all (xs := [.int .i64 0, .int .i64 0]) (vs := [.int .i64 a, .int .i64 c]) rfl] at X3
  exact ⟨h3, e3, X3, N2.step C3 fun y e => by omega, z3⟩
end Go.Proofs.Ytepibodbcheobaa.Am
