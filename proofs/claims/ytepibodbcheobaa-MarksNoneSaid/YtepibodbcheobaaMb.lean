/- Marks: contracts of fits, of the comparison that Push hands on, of slices.IndexFunc and slices.DeleteFunc, by walks. -/
import Derived.Test.YtepibodbcheobaaMa
set_option linter.unusedSimpArgs false
set_option linter.unusedVariables false
set_option maxHeartbeats 4000000
set_option maxRecDepth 20000
namespace Go.Proofs.Ytepibodbcheobaa.Am
open Go Go.RowKit Go.Proofs.Try
def cP (x : Int × Int) : List Value := [.int .i64 x.1, .int .i64 x.2]
theorem cP_len : ∀ x, (cP x).length = 2 := fun _ => rfl
abbrev PR2 (h : Heap) (v : Value) (l : List (Int × Int)) : Prop := RS prog h 2 cP v l
theorem PR2.flds {h : Heap} {v : Value} {l : List (Int × Int)} (R : PR2 h v l) {i : Nat} {x : Int × Int} (hx : l[i]? = some x) : aload prog h 23 (eltA v 2 i) = some (posV x.1 x.2) :=
  R.agg cP_len underlying23 rfl asz23 hx
def fitsB (pl pc : Int) : Bool := decide (0 ≤ imin pl pc) && decide (imax pl pc ≤ 1073741824)
theorem fits_ok {pl pc : Int} {h : Heap} : ACalls prog 30 #[posV pl pc] h (fun y h' => y = .bool (fitsB pl pc) ∧ Keeps h h') := by
  refine acalls_of_W' func30 rfl (by kernel_rfl) (by kernel_rfl) (by simp [ntmps30]) ?_
  intro H
  have N1 := Keeps.new H 23 [.int .i64 pl, .int .i64 pc]
  have V1 := Var.new (e := 23) H (cs := [.int .i64 pl, .int .i64 pc])
  have A0 := V1.load1 (P := prog) (t := 3) underlying3 rfl (i := 0)
  have A1 := V1.load1 (P := prog) (t := 3) underlying3 rfl (i := 1)
  simp only [List.getElem?_cons_succ, List.getElem?_cons_zero] at A0 A1
  by_cases c1 : 0 ≤ imin pl pc
  · have d1 := decide_eq_true c1
    by_cases c2 : imax pl pc ≤ 1073741824
    · have d2 := decide_eq_true c2
      simp only [wk, wt, wl, ↓reduceIte, Nat.reduceEqDiff, Nat.reduceAdd, Nat.zero_add, not_false_eq_true, not_true_eq_false, aeff_box, boxV_pos, A0, A1, mnV, mxV, d1, d2]
      exact ⟨by simp [fitsB, d1, d2], N1⟩
    · have d2 := decide_eq_false c2
      simp only [wk, wt, wl, ↓reduceIte, Nat.reduceEqDiff, Nat.reduceAdd, Nat.zero_add, not_false_eq_true, not_true_eq_false, aeff_box, boxV_pos, A0, A1, mnV, mxV, d1, d2]
      exact ⟨by simp [fitsB, d1, d2], N1⟩
  · have d1 := decide_eq_false c1
    simp only [wk, wt, wl, ↓reduceIte, Nat.reduceEqDiff, Nat.reduceAdd, Nat.zero_add, not_false_eq_true, not_true_eq_false, aeff_box, boxV_pos, A0, A1, mnV, mxV, d1]
    exact ⟨by simp [fitsB, d1], N1⟩
theorem hits_ok {x y pl pc : Int} {b : Nat} {h : Heap} (V : Var h b [.int .i64 pl, .int .i64 pc]) : ACalls prog 32 #[posV x y, pt b] h (fun v h' => v = .bool (decide (x = pl)) ∧ Keeps h h') := by
  refine acalls_of_W' func32 rfl (by kernel_rfl) (by kernel_rfl) (by simp [ntmps32]) ?_
  intro H
  have N1 := Keeps.new H 23 [.int .i64 x, .int .i64 y]
  have V1 := Var.new (e := 23) H (cs := [.int .i64 x, .int .i64 y])
  have V := Keeps.var H N1 V
  have A0 := V1.load1 (P := prog) (t := 3) underlying3 rfl (i := 0)
  have B0 := V.load1 (P := prog) (t := 3) underlying3 rfl (i := 0)
  simp only [List.getElem?_cons_succ, List.getElem?_cons_zero] at A0 B0
  simp only [wk, wt, wl, ↓reduceIte, Nat.reduceEqDiff, Nat.reduceAdd, Nat.zero_add, not_false_eq_true, not_true_eq_false, aeff_box, boxV_pos, pt, A0, B0]
  exact N1
def pushF (b : Nat) : Value := .func (.func 32) #[] #[pt b]
theorem index_ok {v : Value} {l : List (Int × Int)} {pl pc : Int} {b : Nat} {h : Heap} (R : PR2 h v l) (V : Var h b [.int .i64 pl, .int .i64 pc]) (hl : l.length ≤ 1048576) :
    ACalls prog 38 #[v, pushF b] h (fun y h' => (y = .int .i64 (-1) ∧ (∀ x, x ∈ l → x.1 ≠ pl) ∨ ∃ (i : Nat) (x : Int × Int), y = .int .i64 i ∧ l[i]? = some x ∧ x.1 = pl ∧ ∀ (j : Nat) z, j < i → l[j]? = some z → z.1 ≠ pl) ∧ Keeps h h') := by
  refine acalls_of_W' func38 rfl (by kernel_rfl) (by kernel_rfl) (by simp [ntmps38]) ?_
  intro H
  simp only [wk, wt, wl, ↓reduceIte, Nat.reduceEqDiff, Nat.reduceAdd, Nat.zero_add, not_false_eq_true, not_true_eq_false, R.len underlying41]
  refine W_loop (fun tm h' => Keeps h h' ∧ tm 0 = v ∧ tm 1 = pushF b ∧ tm 7 = .int .i64 l.length ∧ ∃ i : Nat, tm 8 = .int .i64 i ∧ i ≤ l.length ∧ ∀ (j : Nat) z, j < i → l[j]? = some z → z.1 ≠ pl)
    (fun tm _ => (l.length - intOf (tm 8)).toNat) ⟨Keeps.refl H, (by first | rfl | (simp only [wk, wt, wl, ↓reduceIte, Nat.reduceEqDiff, Nat.reduceAdd, Nat.zero_add, not_false_eq_true, not_true_eq_false]; done) | (simp only [wk, wt, wl, ↓reduceIte, Nat.reduceEqDiff, Nat.reduceAdd, Nat.zero_add, not_false_eq_true, not_true_eq_false]; rfl)), (by first | rfl | (simp only [wk, wt, wl, ↓reduceIte, Nat.reduceEqDiff, Nat.reduceAdd, Nat.zero_add, not_false_eq_true, not_true_eq_false]; done) | (simp only [wk, wt, wl, ↓reduceIte, Nat.reduceEqDiff, Nat.reduceAdd, Nat.zero_add, not_false_eq_true, not_true_eq_false]; rfl)), (by first | rfl | (simp only [wk, wt, wl, ↓reduceIte, Nat.reduceEqDiff, Nat.reduceAdd, Nat.zero_add, not_false_eq_true, not_true_eq_false]; done) | (simp only [wk, wt, wl, ↓reduceIte, Nat.reduceEqDiff, Nat.reduceAdd, Nat.zero_add, not_false_eq_true, not_true_eq_false]; rfl)), 0, (by first | rfl | (simp only [wk, wt, wl, ↓reduceIte, Nat.reduceEqDiff, Nat.reduceAdd, Nat.zero_add, not_false_eq_true, not_true_eq_false]; done) | (simp only [wk, wt, wl, ↓reduceIte, Nat.reduceEqDiff, Nat.reduceAdd, Nat.zero_add, not_false_eq_true, not_true_eq_false]; rfl)), by omega, fun j z hj => by omega⟩ ?_
  rintro tm h' ⟨K, t0, t1, t7, i, t8, hi, hno⟩
  have R' : PR2 h' v l := RS.keeps R K
  have V' := Keeps.var H K V
  simp only [wk, wt, wl, ↓reduceIte, Nat.reduceEqDiff, Nat.reduceAdd, Nat.zero_add, not_false_eq_true, not_true_eq_false, t0, t1, t7, t8]
  refine condK_dec (fun hd => ?_) (fun hd => ?_)
  · have hi1 : i < l.length := by omega
    obtain ⟨x, hx⟩ : ∃ x, l[i]? = some x := ⟨l[i], List.getElem?_eq_getElem hi1⟩
    have IX := Rd.index R' underlying41 asz23 (q := .i64) (i := (i : Int)) (by omega) (by omega)
    simp only [Int.toNat_natCast] at IX
    simp only [wk, wt, wl, ↓reduceIte, Nat.reduceEqDiff, Nat.reduceAdd, Nat.zero_add, not_false_eq_true, not_true_eq_false, t0, t1, t7, t8, pushF, IX, R'.flds hx, callV_func, body32]
    refine (hits_ok (x := x.1) (y := x.2) V').use ?_
    rintro _ h2 ⟨rfl, K2⟩
    by_cases hc : x.1 = pl
    · have d1 := decide_eq_true hc
      simp only [wk, wt, wl, ↓reduceIte, Nat.reduceEqDiff, Nat.reduceAdd, Nat.zero_add, not_false_eq_true, not_true_eq_false, d1]
      exact ⟨.inr ⟨i, x, rfl, hx, hc, hno⟩, K.trans K2⟩
    · have d1 := decide_eq_false hc
      simp (disch := omega) only [wk, wt, wl, ↓reduceIte, Nat.reduceEqDiff, Nat.reduceAdd, Nat.zero_add, not_false_eq_true, not_true_eq_false, t0, t1, t7, t8, d1, IntWalk.i64_in, intOf_int]
      refine ⟨⟨K.trans K2, rfl, i + 1, by simp, by omega, fun j z hj hz => ?_⟩, by omega⟩
      rcases Nat.lt_or_eq_of_le (Nat.lt_succ_iff.1 hj) with g | rfl
      · exact hno j z g hz
      · rw [hx] at hz; cases hz; exact hc
  · simp only [wk, wt, wl, ↓reduceIte, Nat.reduceEqDiff, Nat.reduceAdd, Nat.zero_add, not_false_eq_true, not_true_eq_false]
    refine ⟨.inl fun x hx => ?_, K⟩
    obtain ⟨j, hj, e⟩ := List.getElem_of_mem hx
    exact hno j x (by omega) (by rw [← e]; exact List.getElem?_eq_getElem hj)
theorem filter_none {l : List (Int × Int)} {pl : Int} (h : ∀ x, x ∈ l → x.1 ≠ pl) : l.filter (fun x => decide (x.1 ≠ pl)) = l := List.filter_eq_self.2 fun x hx => decide_eq_true (h x hx)
theorem deleteP_ok {v : Value} {l : List (Int × Int)} {pl pc : Int} {b : Nat} {h : Heap} (O : OwnR prog h 2 v l.length (l.flatMap cP)) (V : Var h b [.int .i64 pl, .int .i64 pc]) (hnb : blkOf v ≠ some b) (hl : l.length ≤ 1048576) :
    ACalls prog 31 #[v, pushF b] h (fun y h' => OwnR prog h' 2 y (l.filter (fun x => decide (x.1 ≠ pl))).length ((l.filter (fun x => decide (x.1 ≠ pl))).flatMap cP) ∧ blkOf y = blkOf v ∧ Ch (FamV h v) h h') := by
  refine acalls_of_W' func31 rfl (by kernel_rfl) (by kernel_rfl) (by simp [ntmps31]) ?_
  intro H
  have R : PR2 h v l := O.1
  have hvl : ∀ y, blkOf v = some y → y < h.size := fun y e => (O.1.blk_lt e).1
  have hbl := V.lt H
  simp only [wk, wt, wl, ↓reduceIte, Nat.reduceEqDiff, Nat.reduceAdd, Nat.zero_add, not_false_eq_true, not_true_eq_false, pushF]
  refine (index_ok R V hl).use ?_
  rintro y h1 ⟨hy, K1⟩
  rcases hy with ⟨rfl, hno⟩ | ⟨i0, x0, rfl, hx0, he0, hno0⟩
  · have d1 : decide ((-1 : Int) = -1) = true := rfl
    simp only [wk, wt, wl, ↓reduceIte, Nat.reduceEqDiff, Nat.reduceAdd, Nat.zero_add, not_false_eq_true, not_true_eq_false, d1]
    rw [filter_none hno]
    exact ⟨O.keeps K1, K1.mono fun _ e => e.elim⟩
  · have hi0 := (List.getElem?_eq_some_iff.1 hx0).1
    have d1 : decide ((i0 : Int) = -1) = false := decide_eq_false (by omega)
    simp (disch := omega) only [wk, wt, wl, ↓reduceIte, Nat.reduceEqDiff, Nat.reduceAdd, Nat.zero_add, not_false_eq_true, not_true_eq_false, d1, IntWalk.i64_in]
    have hft : l.take i0 = (l.take (i0 + 1)).filter (fun x => decide (x.1 ≠ pl)) := by
      rw [List.take_add_one, hx0]
      simp only [Option.toList_some, List.filter_append]
      have e1 : List.filter (fun x => decide (x.1 ≠ pl)) [x0] = [] := by simp [he0]
      rw [e1, List.append_nil, filter_none fun x hx => ?_]
      obtain ⟨j, hj, e⟩ := List.getElem_of_mem hx
      rw [List.length_take] at hj
      exact hno0 j x (by omega) (by rw [← e, List.getElem_take]; exact List.getElem?_eq_getElem _)
    refine W_loop (fun tm h' => Ch (FamV h v) h h' ∧ tm 0 = v ∧ tm 1 = .func (.func 32) #[] #[pt b] ∧ ∃ (i j : Nat) (cur : List (Int × Int)), tm 5 = .int .i64 i ∧ tm 6 = .int .i64 j ∧ i < j ∧ j ≤ l.length ∧ cur.length = l.length ∧
        cur.take i = (l.take j).filter (fun x => decide (x.1 ≠ pl)) ∧ cur.drop j = l.drop j ∧ OwnR prog h' 2 v cur.length (cur.flatMap cP))
      (fun tm _ => (l.length - intOf (tm 6)).toNat) ⟨K1.mono fun _ e => e.elim, (by first | rfl | (simp only [wk, wt, wl, ↓reduceIte, Nat.reduceEqDiff, Nat.reduceAdd, Nat.zero_add, not_false_eq_true, not_true_eq_false]; done) | (simp only [wk, wt, wl, ↓reduceIte, Nat.reduceEqDiff, Nat.reduceAdd, Nat.zero_add, not_false_eq_true, not_true_eq_false]; rfl)), (by first | rfl | (simp only [wk, wt, wl, ↓reduceIte, Nat.reduceEqDiff, Nat.reduceAdd, Nat.zero_add, not_false_eq_true, not_true_eq_false]; done) | (simp only [wk, wt, wl, ↓reduceIte, Nat.reduceEqDiff, Nat.reduceAdd, Nat.zero_add, not_false_eq_true, not_true_eq_false]; rfl)), i0, i0 + 1, l, (by first | rfl | (simp only [wk, wt, wl, ↓reduceIte, Nat.reduceEqDiff, Nat.reduceAdd, Nat.zero_add, not_false_eq_true, not_true_eq_false]; done) | (simp only [wk, wt, wl, ↓reduceIte, Nat.reduceEqDiff, Nat.reduceAdd, Nat.zero_add, not_false_eq_true, not_true_eq_false]; rfl)), (show _ = Value.int .i64 ((i0 : Int) + 1) from (by first | rfl | (simp only [wk, wt, wl, ↓reduceIte, Nat.reduceEqDiff, Nat.reduceAdd, Nat.zero_add, not_false_eq_true, not_true_eq_false]; done) | (simp only [wk, wt, wl, ↓reduceIte, Nat.reduceEqDiff, Nat.reduceAdd, Nat.zero_add, not_false_eq_true, not_true_eq_false]; rfl))).trans (by simp), by omega, by omega, rfl, hft, rfl, O.keeps K1⟩ ?_
    rintro tm h' ⟨C, t0, t1, i, j, cur, t5, t6, hij, hjl, hcl, htk, hdr, O'⟩
    have R' : PR2 h' v cur := O'.1
    have V' := Ch.var H C V (V.notFam hnb)
    have L' := R'.len underlying41
    simp only [wk, wt, wl, ↓reduceIte, Nat.reduceEqDiff, Nat.reduceAdd, Nat.zero_add, not_false_eq_true, not_true_eq_false, t0, t1, t5, t6, L']
    refine condK_dec (fun hd => ?_) (fun hd => ?_)
    · have hj1 : j < l.length := by omega
      obtain ⟨x, hx⟩ : ∃ x, l[j]? = some x := ⟨l[j], List.getElem?_eq_getElem hj1⟩
      have hxc : cur[j]? = some x := by
        have := congrArg (·[0]?) hdr
        simp only [List.getElem?_drop, Nat.add_zero] at this
        rw [this]; exact hx
      have IX := Rd.index R' underlying41 asz23 (q := .i64) (i := (j : Int)) (by omega) (by omega)
      simp only [Int.toNat_natCast] at IX
      have N2 := Keeps.new (Ch.wf C) 23 [.int .i64 0, .int .i64 0]
      have X2 := Var.new (e := 23) (Ch.wf C) (cs := [.int .i64 0, .int .i64 0])
      obtain ⟨h3, e3, X3, C3, z3⟩ := X2.store (P := prog) (t := 23) (v := posV x.1 x.2) (i := 0) (Ch.wf N2) asz23 (by simp [posV, Value.cells]) (by simp [posV, Value.cells, one])
      have hxs : (posV x.1 x.2).cells.toList = [.int .i64 x.1, .int .i64 x.2] := rfl
      rw [hxs, over_all (xs := [.int .i64 0, .int .i64 0]) (vs := [.int .i64 x.1, .int .i64 x.2]) rfl] at X3
      have K3 := N2.step C3 fun y e => by omega
      have C03 : Ch (FamV h v) h h3 := C.then (D' := fun _ => False) K3 fun y e => e.elim
      have O3 := O'.keeps K3
      have V3 := Keeps.var (Ch.wf C) K3 V'
      have XA := fun {hh : Heap} (X : Var hh h'.size [.int .i64 x.1, .int .i64 x.2]) => X.loadA (P := prog) (t := 23) underlying23 rfl asz23
      simp only [wk, wt, wl, ↓reduceIte, Nat.reduceEqDiff, Nat.reduceAdd, Nat.zero_add, not_false_eq_true, not_true_eq_false, t0, t1, t5, t6, IX, R'.flds hxc, e3, XA X3, callV_func, body32]
      refine (hits_ok (x := x.1) (y := x.2) V3).use ?_
      rintro _ h4 ⟨rfl, K4⟩
      have C04 : Ch (FamV h v) h h4 := C03.then (D' := fun _ => False) K4 fun y e => e.elim
      have O4 := O3.keeps K4
      have X4 := Keeps.var (Ch.wf K3) K4 X3
      have htk2 : (l.take (j + 1)).filter (fun x => decide (x.1 ≠ pl)) = cur.take i ++ List.filter (fun x => decide (x.1 ≠ pl)) [x] := by
        rw [List.take_add_one, hx, List.filter_append, htk]; rfl
      have hdr2 : cur.drop (j + 1) = l.drop (j + 1) := by
        have := congrArg (List.drop 1) hdr
        simpa [List.drop_drop] using this
      by_cases hc : x.1 = pl
      · have d1 := decide_eq_true hc
        simp (disch := omega) only [wk, wt, wl, ↓reduceIte, Nat.reduceEqDiff, Nat.reduceAdd, Nat.zero_add, not_false_eq_true, not_true_eq_false, t0, t1, t5, t6, d1, Bool.not_true, IntWalk.i64_in, intOf_int]
        refine ⟨⟨C04, i, j + 1, cur, rfl, by simp, by omega, by omega, hcl, ?_, hdr2, O4⟩, by omega⟩
        rw [htk2]; simp [hc]
      · have d1 := decide_eq_false hc
        have R4 : PR2 h4 v cur := O4.1
        have IX4 := Rd.index R4 underlying41 asz23 (q := .i64) (i := (i : Int)) (by omega) (by omega)
        simp only [Int.toNat_natCast] at IX4
        obtain ⟨h5, e5, O5, C5, z5, _, _⟩ := O4.storeA (Ch.wf K4) (t := 23) (w := posV x.1 x.2) (i := i) asz23 rfl (by simp [posV, Value.cells, one]) (by omega)
        have hov : over (cur.flatMap cP) (i * 2) (posV x.1 x.2).cells.toList = (cur.set i x).flatMap cP := fm_over (c := cP) cP_len (by omega)
        rw [hov] at O5
        have e5' : storeV prog h4 23 (.pointer (some (eltA v 2 i))) (.agg [Value.int .i64 x.1, Value.int .i64 x.2].toArray) = some (undef, h5) := e5
        have C05 : Ch (FamV h v) h h5 := C04.then C5 fun y F => FamV.back C04 hvl F
        simp (disch := omega) only [wk, wt, wl, ↓reduceIte, Nat.reduceEqDiff, Nat.reduceAdd, Nat.zero_add, not_false_eq_true, not_true_eq_false, t0, t1, t5, t6, d1, Bool.not_false, XA X4, IX4, e5', IntWalk.i64_in, intOf_int]
        refine ⟨⟨C05, i + 1, j + 1, cur.set i x, by simp, by simp, by omega, by omega, by simp [hcl], ?_, ?_, by rw [List.length_set]; exact O5⟩, by omega⟩
        · rw [htk2]
          have e1 : List.filter (fun x => decide (x.1 ≠ pl)) [x] = [x] := by simp [hc]
          rw [e1, List.take_add_one, List.take_set_of_le (Nat.le_refl _), List.getElem?_set_self (by omega)]; rfl
        · rw [List.drop_set_of_lt (by omega)]; exact hdr2
    · have hjl2 : j = l.length := by omega
      subst hjl2
      rw [List.take_length] at htk
      obtain ⟨h5, cs', e5, O5, hcs, C5, z5, _, _⟩ := O'.clear (Ch.wf C) (t := 41) underlying41 azero23 rfl (by simp [Value.cells, one]) (i := i) (by omega)
      have S1 := Rd.sliceLo O'.1 underlying41 asz23 (q := .i64) (i := (i : Int)) (by omega) (by omega)
      have S2 := Rd.sliceHi O5.1 underlying41 asz23 (q' := .i64) (j := (i : Int)) (by omega) (by omega)
      simp only [Int.toNat_natCast] at S1 S2
      simp only [wk, wt, wl, ↓reduceIte, Nat.reduceEqDiff, Nat.reduceAdd, Nat.zero_add, not_false_eq_true, not_true_eq_false, t0, t1, t5, t6, S1, e5, S2]
      have hlen : (l.filter (fun x => decide (x.1 ≠ pl))).length = i := by rw [← htk, List.length_take]; omega
      have P := O5.part (L := 0) (H := i) (by omega) (by omega)
      simp only [Nat.zero_mul, List.drop_zero, Nat.sub_zero] at P
      rw [hcs, ← fm_take cP_len (by omega), htk] at P
      refine ⟨by rw [hlen]; exact P, sliceV_blk, C.then C5 fun y F => FamV.back C hvl F⟩
end Go.Proofs.Ytepibodbcheobaa.Am
