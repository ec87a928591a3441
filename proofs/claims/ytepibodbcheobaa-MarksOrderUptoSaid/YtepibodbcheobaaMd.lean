/- Marks: contracts of New, Back, Forth, Set, by walks. -/
import Derived.Test.YtepibodbcheobaaMc
import Derived.Test.YtepibodbcheobaaSc
set_option linter.unusedSimpArgs false
set_option linter.unusedVariables false
set_option maxHeartbeats 4000000
set_option maxRecDepth 20000
namespace Go.Proofs.Ytepibodbcheobaa.Am
open Go Go.RowKit Go.Proofs.Try
theorem Keeps.opush {h : Heap} (H : Wf h) (ao : AObj) : Keeps h (h.opush ao) := by
  refine ⟨⟨fun b hb => H.1 b (by have : h.size + 1 ≤ b := hb; omega), H.2⟩, Nat.le_succ _, fun _ _ _ => rfl, fun b k hb hk => ?_, fun b k _ hk => ⟨k, hk, rfl⟩, fun x hx _ => ?_⟩
  · have : h.get b = some k := hk
    rw [H.1 b hb] at this; cases this
  · show (if x = h.size then _ else h.obj x) = h.obj x
    rw [if_neg (by omega)]
theorem mapKind : mapOf prog 58 = some (.i32, 23) := by kernel_rfl
theorem mkMap {h : Heap} : amakeMap prog h 58 = some (.map (some h.size), h.opush (.map .i32 [])) := by simp [amakeMap, mapKind]
theorem build_m {r : Option Nat} : abuild prog 60 #[(0, .map r)] = some (.agg #[.map r, .slice none 0 0, .int .i64 0]) := by simp [abuild, wt, aplaces, Instr.fill, Value.cells]
theorem one_map {r : Option Nat} : one (.map r) = true := rfl
theorem boxV_m {h : Heap} {r : Option Nat} : boxV prog h 60 (.agg #[.map r, .slice none 0 0, .int .i64 0]) = some (.pointer (some ⟨h.size, 0, none⟩), h.new 60 [.map r, .slice none 0 0, .int .i64 0]) := by
  simp [boxV, asz60, Value.cells, one]
theorem opush_size {h : Heap} {ao : AObj} : (h.opush ao).size = h.size + 1 := rfl
theorem new_ok {h : Heap} : ACalls prog 12 #[] h (fun y h' => ∃ b r jv, y = pt b ∧ MK h' b r jv [] 0 [] ∧ Keeps h h' ∧ h.size ≤ b ∧ jv = .slice none 0 0 ∧ b < h'.size ∧ h.size ≤ r) := by
  refine acalls_of_W' func12 rfl (by kernel_rfl) (by kernel_rfl) (by simp [ntmps12]) ?_
  intro H
  simp only [wk, wt, wl, ↓reduceIte, Nat.reduceEqDiff, Nat.reduceAdd, Nat.zero_add, not_false_eq_true, not_true_eq_false, aeff_box, mkMap, build_m, boxV_m, opush_size]
  have K1 := Keeps.opush H (.map .i32 [])
  have N2 := Keeps.new (Ch.wf K1) 60 [.map (some h.size), .slice none 0 0, .int .i64 0]
  have V2 := Var.new (e := 60) (Ch.wf K1) (cs := [.map (some h.size), .slice none 0 0, .int .i64 0])
  have hs : (h.opush (.map .i32 [])).size = h.size + 1 := rfl
  rw [hs] at V2
  refine ⟨h.size + 1, h.size, _, rfl, ⟨V2, OwnR.nil0, (fun e => by cases e), ?_, ?_, ?_⟩, K1.trans N2, by omega, rfl, ?_, Nat.le_refl _⟩
  · show (if h.size = h.size then _ else _) = _
    rw [if_pos rfl]
  · show ((h.opush (.map .i32 [])).new 60 _).get h.size = none
    rw [show ((h.opush (.map .i32 [])).new 60 [.map (some h.size), .slice none 0 0, .int .i64 0]).get h.size = (h.opush (.map .i32 [])).get h.size from Heap.push_ne (by rw [hs]; omega)]
    exact H.1 h.size (Nat.le_refl _)
  · show h.size < h.size + 1 + 1; omega
  · show h.size + 1 < h.size + 1 + 1; omega
/-- Where one goes back to. -/
def backS (jl : List (Int × Int)) (ix pl pc : Int) : List (Int × Int) × Int := if ix = jl.length then ((pushS jl ix pl pc).1, imax 0 ((pushS jl ix pl pc).1.length - 1)) else (jl, ix)
def Fine (jl : List (Int × Int)) (ix : Int) : Prop := jl.length ≤ 100 ∧ 0 ≤ ix ∧ ix ≤ jl.length
theorem pushS_fine {jl : List (Int × Int)} {ix pl pc : Int} (F : Fine jl ix) : Fine (pushS jl ix pl pc).1 (pushS jl ix pl pc).2 := by
  unfold pushS
  split
  · exact ⟨pushL_len, by simp only; omega, by simp⟩
  · exact F
theorem backS_fine {jl : List (Int × Int)} {ix pl pc : Int} (F : Fine jl ix) : Fine (backS jl ix pl pc).1 (backS jl ix pl pc).2 := by
  have hp := pushS_fine (pl := pl) (pc := pc) F
  unfold backS
  split
  · have M := imax_spec 0 (((pushS jl ix pl pc).1.length : Int) - 1)
    refine ⟨hp.1, by simp only; omega, ?_⟩
    simp only; omega
  · exact F
def backV (jl : List (Int × Int)) (ix pl pc : Int) : Value := if (backS jl ix pl pc).2 = 0 then moveV ((0, 0), false) else moveV ((backS jl ix pl pc).1.getD ((backS jl ix pl pc).2 - 1).toNat (0, 0), true)
def backI (jl : List (Int × Int)) (ix pl pc : Int) : Int := if (backS jl ix pl pc).2 = 0 then 0 else (backS jl ix pl pc).2 - 1
theorem back_ok {b r : Nat} {jv : Value} {jl : List (Int × Int)} {ix pl pc : Int} {es : List (Int × Value)} {h : Heap} (M : MK h b r jv jl ix es) (F : Fine jl ix) :
    ACalls prog 14 #[pt b, posV pl pc] h (fun y h' => y = backV jl ix pl pc ∧ ∃ jv', MK h' b r jv' (backS jl ix pl pc).1 (backI jl ix pl pc) es ∧ Ch (MD h b jv) h h' ∧ ∀ z, blkOf jv' = some z → h.size ≤ z ∨ blkOf jv = some z) := by
  refine acalls_of_W' func14 rfl (by kernel_rfl) (by kernel_rfl) (by simp [ntmps14]) ?_
  intro H
  have N1 := Keeps.new H 23 [.int .i64 pl, .int .i64 pc]
  have V1 := Var.new (e := 23) H (cs := [.int .i64 pl, .int .i64 pc])
  have N2 := Keeps.new (Ch.wf N1) 23 [.int .i64 0, .int .i64 0]
  have V2 := Var.new (e := 23) (Ch.wf N1) (cs := [.int .i64 0, .int .i64 0])
  simp only [new_size] at V2
  have V1 := Keeps.var (Ch.wf N1) N2 V1
  have K2 := N1.trans N2
  have M2 := M.keeps H K2
  have hbl := M.var.lt H
  have hrl := M.lt
  have PN := fun {a : Addr} => ptr_some (P := prog) (a := a) underlying32
  have PA := fun {hh : Heap} (V : Var hh h.size [.int .i64 pl, .int .i64 pc]) => V.loadA (P := prog) (t := 23) underlying23 rfl asz23
  have RA := fun {hh : Heap} {x y : Int} (V : Var hh (h.size + 1) [.int .i64 x, .int .i64 y]) => V.loadA (P := prog) (t := 23) underlying23 rfl asz23
  have ML := fun {hh : Heap} {x y z : Value} (V : Var hh b [x, y, z]) => V.load1 (P := prog) (t := 41) underlying41 rfl (i := 1)
  have MI := fun {hh : Heap} {x y z : Value} (V : Var hh b [x, y, z]) => V.load1 (P := prog) (t := 3) underlying3 rfl (i := 2)
  simp only [List.getElem?_cons_succ, List.getElem?_cons_zero] at ML MI
  have L2 := Rd.len M2.own.1 underlying41
  have hz2 : ((h.new 23 [.int .i64 pl, .int .i64 pc]).new 23 [.int .i64 0, .int .i64 0]).size = h.size + 2 := rfl
  simp only [wk, wt, wl, ↓reduceIte, Nat.reduceEqDiff, Nat.reduceAdd, Nat.zero_add, not_false_eq_true, not_true_eq_false, aeff_box, boxV_pos, new_size, pt, PN]
  generalize (h.new 23 [.int .i64 pl, .int .i64 pc]).new 23 [.int .i64 0, .int .i64 0] = h2 at *
  refine adraw_order [(0, false), (1, false), (2, false), (3, false), (4, false), (5, false), (6, false), (7, false), (8, false), (9, false)] mixed (by kernel_rfl) (by kernel_rfl) (by kernel_rfl) (by with_reducible repeat (first | exact PF_retK | refine PF_thenK ?_ | refine PF_blockK ?_)) ?_
  by_cases he : ix = jl.length
  · have d1 := decide_eq_true he
    have hbs : backS jl ix pl pc = ((pushS jl ix pl pc).1, imax 0 ((pushS jl ix pl pc).1.length - 1)) := by unfold backS; rw [if_pos he]
    simp only [wk, wt, wl, ↓reduceIte, Nat.reduceEqDiff, Nat.reduceAdd, Nat.zero_add, not_false_eq_true, not_true_eq_false, MI M2.var, ML M2.var, L2, d1, PA V1]
    refine (push_ok (pl := pl) (pc := pc) M2 F.1).use ?_
    rintro _ h3 ⟨rfl, jv', M3, C3, hn3⟩
    have F3 := pushS_fine (pl := pl) (pc := pc) F
    have hnv2 : ¬ MD h2 b jv (h.size + 1) := fun e => by
      rcases e with e | e
      · omega
      · exact V2.notFam (fun e => by have := M.jlt _ e; omega) e
    have VR3 := Ch.var (Ch.wf K2) C3 V2 hnv2
    have L3 := Rd.len M3.own.1 underlying41
    obtain ⟨J, hJ⟩ : ∃ J, (pushS jl ix pl pc).1 = J := ⟨_, rfl⟩
    rw [hJ] at M3 F3 hbs L3
    have hJl : J.length ≤ 100 := F3.1
    have w0 : IntKind.i64.wrap ((J.length : Int) - 1) = (J.length : Int) - 1 := IntWalk.i64_in _ (by omega)
    obtain ⟨I, hI⟩ : ∃ I, imax 0 ((J.length : Int) - 1) = I := ⟨_, rfl⟩
    have hIs := imax_spec 0 ((J.length : Int) - 1)
    rw [hI] at hbs hIs
    have hF : Fine J I := ⟨hJl, by omega, by omega⟩
    obtain ⟨h4, e4, V4, C4, z4⟩ := M3.var.store1 (P := prog) (t := 3) (v := .int .i64 I) (i := 2) (Ch.wf C3) asz3 (by simp) rfl
    simp only [List.set_cons_succ, List.set_cons_zero] at V4
    have C03 : Ch (MD h b jv) h h3 := (K2.mono (D' := MD h b jv) fun _ e => e.elim).then C3 fun x E => MD.back K2 M.jlt E
    have C : Ch (MD h b jv) h h4 := C03.then C4 fun x e => .inr (.inl e)
    have VR := Ch.var (Ch.wf C3) C4 VR3 (by omega)
    have hrn : r ≠ b := fun e => M.notr (.inl e)
    have M' : MK h4 b r jv' J I es := ⟨V4, Ch.ownR C4 M3.own fun z e e' => M3.nb (by rw [e, e']), M3.nb, (C4.obj M3.lt hrn).trans M3.obj, (C4.at M3.lt hrn).trans M3.nget, Nat.lt_of_lt_of_le M3.lt (Ch.le C4)⟩
    have hle3 := Ch.le C03
    have hjr : blkOf jv' ≠ some (h.size + 1) := fun e => by
      rcases hn3 _ e with g | g
      · omega
      · have := M.jlt _ g; omega
    have hnew : ∀ z, blkOf jv' = some z → h.size ≤ z ∨ blkOf jv = some z := fun z e => (hn3 z e).imp (fun g => by omega) id
    have hle4 := Ch.le C4
    have hle3' := Ch.le C3
    have IX2 := fun {hh : Heap} {x y z : Value} (V : Var hh b [x, y, z]) => V.load1 (P := prog) (t := 3) underlying3 rfl (i := 2)
    simp only [List.getElem?_cons_succ, List.getElem?_cons_zero] at IX2
    have hF2 : Fine J I := hF
    have hVR := VR
    by_cases h0 : I = 0
    · have d0 := decide_eq_true h0
      obtain ⟨h9, e9, V9, C9, z9⟩ := VR.store (P := prog) (t := 23) (v := .agg #[.int .i64 0, .int .i64 0]) (i := 0) (Ch.wf C) asz23 (by simp [Value.cells]) (by simp [Value.cells, one])
      simp only [Value.cells, over_all (xs := [.int .i64 0, .int .i64 0]) (vs := [.int .i64 0, .int .i64 0]) rfl] at V9
      have C09 : Ch (MD h b jv) h h9 := C.then C9 fun x e => .inl (by omega)
      simp only [wk, wt, wl, ↓reduceIte, Nat.reduceEqDiff, Nat.reduceAdd, Nat.zero_add, not_false_eq_true, not_true_eq_false, ML M3.var, L3, w0, mxV, hI, e4, IX2 M'.var, d0, build_p0, e9, RA V9]
      have hne9 : ∀ z, blkOf jv' = some z → z ≠ h.size + 1 := fun z e e' => by
        subst e'
        obtain ⟨k, q1, q2⟩ := M'.own.2 _ e
        exact hjr e
      rw [hbs]
      refine ⟨by unfold backV; rw [hbs]; simp [h0, moveV, posV], jv', ?_, C09, hnew⟩
      have hx : backI jl ix pl pc = I := by unfold backI; rw [hbs]; simp [h0]
      rw [hx]
      exact ⟨Ch.var (Ch.wf C) C9 M'.var (by omega), Ch.ownR C9 M'.own fun z e e' => hjr (by rw [← e']; exact e), M'.nb, (C9.obj M'.lt (by omega)).trans M'.obj, (C9.at M'.lt (by omega)).trans M'.nget, Nat.lt_of_lt_of_le M'.lt (Ch.le C9)⟩
    · have d0 := decide_eq_false h0
      obtain ⟨hF1, hF0, hFl⟩ := hF2
      obtain ⟨k, hk⟩ : ∃ k : Nat, I - 1 = (k : Int) := ⟨(I - 1).toNat, by omega⟩
      have hkl : k < J.length := by omega
      obtain ⟨x, hx⟩ : ∃ x, J[k]? = some x := ⟨J[k], List.getElem?_eq_getElem hkl⟩
      have w1 : IntKind.i64.wrap (I - 1) = (k : Int) := by rw [IntWalk.i64_in _ (by omega)]; exact hk
      obtain ⟨h8, e8, V8, C8, z8⟩ := M'.var.store1 (P := prog) (t := 3) (v := .int .i64 (k : Int)) (i := 2) (Ch.wf C) asz3 (by simp) rfl
      simp only [List.set_cons_succ, List.set_cons_zero] at V8
      have O8 := Ch.ownR C8 M'.own fun z e e' => M'.nb (by rw [e, e'])
      have VR8 := Ch.var (Ch.wf C) C8 VR (by omega)
      have R8 : PR2 h8 jv' J := O8.1
      have IX := Rd.index R8 underlying41 asz23 (q := .i64) (i := (k : Int)) (by omega) (by omega)
      simp only [Int.toNat_natCast] at IX
      obtain ⟨h9, e9, V9, C9, z9⟩ := VR8.store (P := prog) (t := 23) (v := posV x.1 x.2) (i := 0) (Ch.wf C8) asz23 (by simp [posV, Value.cells]) (by simp [posV, Value.cells, one])
      have hxs : (posV x.1 x.2).cells.toList = [.int .i64 x.1, .int .i64 x.2] := rfl
      rw [hxs, over_all (xs := [.int .i64 0, .int .i64 0]) (vs := [.int .i64 x.1, .int .i64 x.2]) rfl] at V9
      have C08 : Ch (MD h b jv) h h8 := C.then C8 fun x e => .inr (.inl e)
      have C09 : Ch (MD h b jv) h h9 := C08.then C9 fun x e => .inl (by omega)
      simp only [wk, wt, wl, ↓reduceIte, Nat.reduceEqDiff, Nat.reduceAdd, Nat.zero_add, not_false_eq_true, not_true_eq_false, ML M3.var, L3, w0, mxV, hI, e4, IX2 M'.var, d0, w1, e8]
      refine adraw_order [(0, false), (1, false), (2, false), (3, false), (4, false), (5, false), (6, false), (7, false), (8, false), (9, false), (10, false), (11, false)] mixed (by kernel_rfl) (by kernel_rfl) (by kernel_rfl) (by with_reducible repeat (first | exact PF_retK | refine PF_thenK ?_ | refine PF_blockK ?_)) ?_
      simp only [wk, wt, wl, ↓reduceIte, Nat.reduceEqDiff, Nat.reduceAdd, Nat.zero_add, not_false_eq_true, not_true_eq_false, dK_t, ML V8, IX2 V8, IX, R8.flds hx, e9]
      simp only [wk, wt, wl, ↓reduceIte, Nat.reduceEqDiff, Nat.reduceAdd, Nat.zero_add, not_false_eq_true, not_true_eq_false, RA V9]
      have hgd : J.getD (I - 1).toNat (0, 0) = x := by rw [hk]; simp [List.getD, hx]
      rw [hbs]
      refine ⟨by unfold backV; rw [hbs]; simp only; rw [if_neg h0, hgd]; rfl, jv', ?_, C09, hnew⟩
      have hxi : backI jl ix pl pc = (k : Int) := by unfold backI; rw [hbs]; simp only; rw [if_neg h0]; exact hk
      rw [hxi]
      exact ⟨Ch.var (Ch.wf C8) C9 V8 (by omega), Ch.ownR C9 O8 fun z e e' => hjr (by rw [← e']; exact e), M'.nb, (C9.obj (by have := M'.lt; omega) (by omega)).trans ((C8.obj M'.lt (by omega)).trans M'.obj), (C9.at (by have := M'.lt; omega) (by omega)).trans ((C8.at M'.lt (by omega)).trans M'.nget), by have := M'.lt; have := Ch.le C9; omega⟩
  · have d1 := decide_eq_false he
    have hbs : backS jl ix pl pc = (jl, ix) := by unfold backS; rw [if_neg he]
    have C : Ch (MD h b jv) h h2 := K2.mono fun _ e => e.elim
    have VR := V2
    have hF := F
    have M' := M2
    have hrn : r ≠ b := fun e => M.notr (.inl e)
    have hjr : blkOf jv ≠ some (h.size + 1) := fun e => by have := M.jlt _ e; omega
    have hnew : ∀ z, blkOf jv = some z → h.size ≤ z ∨ blkOf jv = some z := fun z e => .inr e
    have IX2 := fun {hh : Heap} {x y z : Value} (V : Var hh b [x, y, z]) => V.load1 (P := prog) (t := 3) underlying3 rfl (i := 2)
    simp only [List.getElem?_cons_succ, List.getElem?_cons_zero] at IX2
    have hF2 : Fine jl ix := hF
    have hVR := VR
    by_cases h0 : ix = 0
    · have d0 := decide_eq_true h0
      obtain ⟨h9, e9, V9, C9, z9⟩ := VR.store (P := prog) (t := 23) (v := .agg #[.int .i64 0, .int .i64 0]) (i := 0) (Ch.wf C) asz23 (by simp [Value.cells]) (by simp [Value.cells, one])
      simp only [Value.cells, over_all (xs := [.int .i64 0, .int .i64 0]) (vs := [.int .i64 0, .int .i64 0]) rfl] at V9
      have C09 : Ch (MD h b jv) h h9 := C.then C9 fun x e => .inl (by omega)
      simp only [wk, wt, wl, ↓reduceIte, Nat.reduceEqDiff, Nat.reduceAdd, Nat.zero_add, not_false_eq_true, not_true_eq_false, MI M2.var, ML M2.var, L2, d1, IX2 M'.var, d0, build_p0, e9, RA V9]
      have hne9 : ∀ z, blkOf jv = some z → z ≠ h.size + 1 := fun z e e' => by
        subst e'
        obtain ⟨k, q1, q2⟩ := M'.own.2 _ e
        exact hjr e
      rw [hbs]
      refine ⟨by unfold backV; rw [hbs]; simp [h0, moveV, posV], jv, ?_, C09, hnew⟩
      have hx : backI jl ix pl pc = ix := by unfold backI; rw [hbs]; simp [h0]
      rw [hx]
      exact ⟨Ch.var (Ch.wf C) C9 M'.var (by omega), Ch.ownR C9 M'.own fun z e e' => hjr (by rw [← e']; exact e), M'.nb, (C9.obj M'.lt (by omega)).trans M'.obj, (C9.at M'.lt (by omega)).trans M'.nget, Nat.lt_of_lt_of_le M'.lt (Ch.le C9)⟩
    · have d0 := decide_eq_false h0
      obtain ⟨hF1, hF0, hFl⟩ := hF2
      obtain ⟨k, hk⟩ : ∃ k : Nat, ix - 1 = (k : Int) := ⟨(ix - 1).toNat, by omega⟩
      have hkl : k < jl.length := by omega
      obtain ⟨x, hx⟩ : ∃ x, jl[k]? = some x := ⟨jl[k], List.getElem?_eq_getElem hkl⟩
      have w1 : IntKind.i64.wrap (ix - 1) = (k : Int) := by rw [IntWalk.i64_in _ (by omega)]; exact hk
      obtain ⟨h8, e8, V8, C8, z8⟩ := M'.var.store1 (P := prog) (t := 3) (v := .int .i64 (k : Int)) (i := 2) (Ch.wf C) asz3 (by simp) rfl
      simp only [List.set_cons_succ, List.set_cons_zero] at V8
      have O8 := Ch.ownR C8 M'.own fun z e e' => M'.nb (by rw [e, e'])
      have VR8 := Ch.var (Ch.wf C) C8 VR (by omega)
      have R8 : PR2 h8 jv jl := O8.1
      have IX := Rd.index R8 underlying41 asz23 (q := .i64) (i := (k : Int)) (by omega) (by omega)
      simp only [Int.toNat_natCast] at IX
      obtain ⟨h9, e9, V9, C9, z9⟩ := VR8.store (P := prog) (t := 23) (v := posV x.1 x.2) (i := 0) (Ch.wf C8) asz23 (by simp [posV, Value.cells]) (by simp [posV, Value.cells, one])
      have hxs : (posV x.1 x.2).cells.toList = [.int .i64 x.1, .int .i64 x.2] := rfl
      rw [hxs, over_all (xs := [.int .i64 0, .int .i64 0]) (vs := [.int .i64 x.1, .int .i64 x.2]) rfl] at V9
      have C08 : Ch (MD h b jv) h h8 := C.then C8 fun x e => .inr (.inl e)
      have C09 : Ch (MD h b jv) h h9 := C08.then C9 fun x e => .inl (by omega)
      simp only [wk, wt, wl, ↓reduceIte, Nat.reduceEqDiff, Nat.reduceAdd, Nat.zero_add, not_false_eq_true, not_true_eq_false, MI M2.var, ML M2.var, L2, d1, IX2 M'.var, d0, w1, e8]
      refine adraw_order [(0, false), (1, false), (2, false), (3, false), (4, false), (5, false), (6, false), (7, false), (8, false), (9, false), (10, false), (11, false)] mixed (by kernel_rfl) (by kernel_rfl) (by kernel_rfl) (by with_reducible repeat (first | exact PF_retK | refine PF_thenK ?_ | refine PF_blockK ?_)) ?_
      simp only [wk, wt, wl, ↓reduceIte, Nat.reduceEqDiff, Nat.reduceAdd, Nat.zero_add, not_false_eq_true, not_true_eq_false, dK_t, ML V8, IX2 V8, IX, R8.flds hx, e9]
      simp only [wk, wt, wl, ↓reduceIte, Nat.reduceEqDiff, Nat.reduceAdd, Nat.zero_add, not_false_eq_true, not_true_eq_false, RA V9]
      have hgd : jl.getD (ix - 1).toNat (0, 0) = x := by rw [hk]; simp [List.getD, hx]
      rw [hbs]
      refine ⟨by unfold backV; rw [hbs]; simp only; rw [if_neg h0, hgd]; rfl, jv, ?_, C09, hnew⟩
      have hxi : backI jl ix pl pc = (k : Int) := by unfold backI; rw [hbs]; simp only; rw [if_neg h0]; exact hk
      rw [hxi]
      exact ⟨Ch.var (Ch.wf C8) C9 V8 (by omega), Ch.ownR C9 O8 fun z e e' => hjr (by rw [← e']; exact e), M'.nb, (C9.obj (by have := M'.lt; omega) (by omega)).trans ((C8.obj M'.lt (by omega)).trans M'.obj), (C9.at (by have := M'.lt; omega) (by omega)).trans ((C8.at M'.lt (by omega)).trans M'.nget), by have := M'.lt; have := Ch.le C9; omega⟩
end Go.Proofs.Ytepibodbcheobaa.Am
