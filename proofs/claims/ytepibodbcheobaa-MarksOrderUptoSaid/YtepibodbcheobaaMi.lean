/- MarksNone told of abstract memory: it answers true. What the methods answer at no marks. -/
import Derived.Test.YtepibodbcheobaaMh
set_option linter.unusedSimpArgs false
set_option linter.unusedVariables false
set_option maxHeartbeats 4000000
set_option maxRecDepth 20000
namespace Go.Proofs.Ytepibodbcheobaa.Am
open Go Go.RowKit Go.Proofs.Try
theorem Var.loadP {P : Program} {h : Heap} {b : Nat} {cs : List Value} (V : Var h b cs) {t : TypeId} {d : TypeDesc} {i n : Nat} (ht : P.underlying t = some d) (hd : isAggD d = true) (hs : asz P t = some n) (hi : i + n ≤ cs.length) :
    aload P h t ⟨b, i, none⟩ = some (.agg ((cs.drop i).take n).toArray) := by
  obtain ⟨k, h1, rfl, h3, _⟩ := V
  simp [aload, h1, h3, ht, hd, hs, hi]
theorem nilM : abin prog .eql 32 (.pointer none) (.pointer none) = some (.bool true) := ptr_none underlying32
theorem names_nil {h : Heap} : ACalls prog 27 #[.pointer none] h (fun y h' => y = .slice none 0 0 ∧ Keeps h h') := by
  refine acalls_of_W' func27 rfl (by kernel_rfl) (by kernel_rfl) (by simp [ntmps27]) ?_
  intro H
  simp only [wk, wt, wl, ↓reduceIte, Nat.reduceEqDiff, Nat.reduceAdd, Nat.zero_add, not_false_eq_true, not_true_eq_false, nilM]
  exact Keeps.refl H
theorem jumps_nil {h : Heap} : ACalls prog 25 #[.pointer none] h (fun y h' => y = .tuple #[.slice none 0 0, .int .i64 0] ∧ Keeps h h') := by
  refine acalls_of_W' func25 rfl (by kernel_rfl) (by kernel_rfl) (by simp [ntmps25]) ?_
  intro H
  simp only [wk, wt, wl, ↓reduceIte, Nat.reduceEqDiff, Nat.reduceAdd, Nat.zero_add, not_false_eq_true, not_true_eq_false, nilM]
  exact Keeps.refl H
theorem push_nil {h : Heap} {x y : Int} : ACalls prog 13 #[.pointer none, posV x y] h (fun y h' => y = .tuple #[] ∧ Keeps h h') := by
  refine acalls_of_W' func13 rfl (by kernel_rfl) (by kernel_rfl) (by simp [ntmps13]) ?_
  intro H
  simp only [wk, wt, wl, ↓reduceIte, Nat.reduceEqDiff, Nat.reduceAdd, Nat.zero_add, not_false_eq_true, not_true_eq_false, nilM, aeff_box, boxV_pos]
  exact Keeps.new H _ _
theorem adjust_nil {h : Heap} {c : Int} {ov nv : Value} (oo : one ov = true) (on : one nv = true) : ACalls prog 20 #[.pointer none, chV c ov nv] h (fun y h' => y = .tuple #[] ∧ Keeps h h') := by
  refine acalls_of_W' func20 rfl (by kernel_rfl) (by kernel_rfl) (by simp [ntmps20]) ?_
  intro H
  simp only [wk, wt, wl, ↓reduceIte, Nat.reduceEqDiff, Nat.reduceAdd, Nat.zero_add, not_false_eq_true, not_true_eq_false, nilM, aeff_box, boxV_ch oo on]
  exact Keeps.new H _ _
theorem get_nil {h : Heap} {x : Int} : ACalls prog 18 #[.pointer none, .int .i32 x] h (fun y h' => y = moveV ((0, 0), false) ∧ Keeps h h') := by
  refine acalls_of_W' func18 rfl (by kernel_rfl) (by kernel_rfl) (by simp [ntmps18]) ?_
  intro H
  obtain ⟨h5, e5, V5, K5, z5⟩ := newPos H 0 0
  have L5 := loadPos V5
  simp only [wk, wt, wl, ↓reduceIte, Nat.reduceEqDiff, Nat.reduceAdd, Nat.zero_add, not_false_eq_true, not_true_eq_false, nilM, zero_p, build_p0, e5, L5]
  exact ⟨rfl, K5⟩
theorem forth_nil {h : Heap} : ACalls prog 15 #[.pointer none] h (fun y h' => y = moveV ((0, 0), false) ∧ Keeps h h') := by
  refine acalls_of_W' func15 rfl (by kernel_rfl) (by kernel_rfl) (by simp [ntmps15]) ?_
  intro H
  obtain ⟨h5, e5, V5, K5, z5⟩ := newPos H 0 0
  have L5 := loadPos V5
  simp only [wk, wt, wl, ↓reduceIte, Nat.reduceEqDiff, Nat.reduceAdd, Nat.zero_add, not_false_eq_true, not_true_eq_false, nilM, zero_p]
  refine adraw_order [(0, false), (1, false), (2, false), (3, false), (4, false), (5, false), (6, false), (7, false), (8, false), (9, false), (10, false), (11, false), (12, false), (13, false), (14, false)] mixed (by kernel_rfl) (by kernel_rfl) (by kernel_rfl) (by with_reducible repeat (first | exact PF_retK | refine PF_thenK ?_ | refine PF_blockK ?_)) ?_
  simp only [wk, wt, wl, ↓reduceIte, Nat.reduceEqDiff, Nat.reduceAdd, Nat.zero_add, not_false_eq_true, not_true_eq_false, nilM, zero_p, build_p0, e5, L5]
  exact ⟨rfl, K5⟩
theorem back_nil {h : Heap} {x y : Int} : ACalls prog 14 #[.pointer none, posV x y] h (fun y h' => y = moveV ((0, 0), false) ∧ Keeps h h') := by
  refine acalls_of_W' func14 rfl (by kernel_rfl) (by kernel_rfl) (by simp [ntmps14]) ?_
  intro H
  have N1 := Keeps.new H 23 [.int .i64 x, .int .i64 y]
  obtain ⟨h5, e5, V5, K5, z5⟩ := newPos (Ch.wf N1) 0 0
  have L5 := loadPos V5
  simp only [new_size] at e5 L5
  simp only [wk, wt, wl, ↓reduceIte, Nat.reduceEqDiff, Nat.reduceAdd, Nat.zero_add, not_false_eq_true, not_true_eq_false, nilM, zero_p, aeff_box, boxV_pos, build_p0, new_size, e5, L5]
  exact ⟨rfl, N1.trans K5⟩
theorem set_nil {h : Heap} {r x y : Int} : ACalls prog 16 #[.pointer none, .int .i32 r, posV x y] h (fun y h' => y = .int .i64 1 ∧ Keeps h h') := by
  refine acalls_of_W' func16 rfl (by kernel_rfl) (by kernel_rfl) (by simp [ntmps16]) ?_
  intro H
  have N1 := Keeps.new H 23 [.int .i64 x, .int .i64 y]
  by_cases c1 : 97 ≤ r
  · have d1 := decide_eq_true c1
    simp only [wk, wt, wl, ↓reduceIte, Nat.reduceEqDiff, Nat.reduceAdd, Nat.zero_add, not_false_eq_true, not_true_eq_false, nilM, aeff_box, boxV_pos, d1]
    exact N1
  · have d1 := decide_eq_false c1
    simp only [wk, wt, wl, ↓reduceIte, Nat.reduceEqDiff, Nat.reduceAdd, Nat.zero_add, not_false_eq_true, not_true_eq_false, nilM, aeff_box, boxV_pos, d1]
    exact N1
def deedV (k r pl pc c : Int) (ov nv : Value) : Value := .agg #[.int .i64 k, .int .i32 r, .int .i64 pl, .int .i64 pc, .int .i64 c, ov, nv]
theorem boxV_deed {h : Heap} {k r pl pc c : Int} {ov nv : Value} (oo : one ov = true) (on : one nv = true) : boxV prog h 45 (deedV k r pl pc c ov nv) = some (.pointer (some ⟨h.size, 0, none⟩), h.new 45 [.int .i64 k, .int .i32 r, .int .i64 pl, .int .i64 pc, .int .i64 c, ov, nv]) := by
  simp [boxV, asz45, deedV, Value.cells, oo, on, one_int]
theorem marksNone_law {k r pl pc c : Int} {ov nv : Value} {h : Heap} (oo : one ov = true) (on : one nv = true) : ACalls prog 7 #[deedV k r pl pc c ov nv] h (fun y h' => y = .bool true ∧ Keeps h h') := by
  refine acalls_of_W' func7 rfl (by kernel_rfl) (by kernel_rfl) (by simp [ntmps7]) ?_
  intro H
  have N1 := Keeps.new H 45 [.int .i64 k, .int .i32 r, .int .i64 pl, .int .i64 pc, .int .i64 c, ov, nv]
  have V1 := Var.new (e := 45) H (cs := [.int .i64 k, .int .i32 r, .int .i64 pl, .int .i64 pc, .int .i64 c, ov, nv])
  have LC : ∀ {hh : Heap}, Var hh h.size [.int .i64 k, .int .i32 r, .int .i64 pl, .int .i64 pc, .int .i64 c, ov, nv] → aload prog hh 26 ⟨h.size, 4, none⟩ = some (chV c ov nv) := fun V => V.loadP underlying26 rfl asz26 (by simp)
  have LP : ∀ {hh : Heap}, Var hh h.size [.int .i64 k, .int .i32 r, .int .i64 pl, .int .i64 pc, .int .i64 c, ov, nv] → aload prog hh 23 ⟨h.size, 2, none⟩ = some (posV pl pc) := fun V => V.loadP underlying23 rfl asz23 (by simp)
  have LR := fun {hh : Heap} (V : Var hh h.size [.int .i64 k, .int .i32 r, .int .i64 pl, .int .i64 pc, .int .i64 c, ov, nv]) => V.load1 (P := prog) (t := 21) underlying21 rfl (i := 1)
  simp only [List.getElem?_cons_succ, List.getElem?_cons_zero] at LR
  simp only [wk, wt, wl, ↓reduceIte, Nat.reduceEqDiff, Nat.reduceAdd, Nat.zero_add, not_false_eq_true, not_true_eq_false, aeff_box, boxV_deed oo on, LC V1]
  generalize h.new 45 [.int .i64 k, .int .i32 r, .int .i64 pl, .int .i64 pc, .int .i64 c, ov, nv] = h1 at *
  refine (adjust_nil (c := c) oo on).use ?_
  rintro _ h2 ⟨rfl, K2⟩
  have V2 := Keeps.var (Ch.wf N1) K2 V1
  have K02 := N1.trans K2
  simp only [wk, wt, wl, ↓reduceIte, Nat.reduceEqDiff, Nat.reduceAdd, Nat.zero_add, not_false_eq_true, not_true_eq_false, LP V2]
  refine (push_nil (x := pl) (y := pc)).use ?_
  rintro _ h3 ⟨rfl, K3⟩
  have V3 := Keeps.var (Ch.wf K02) K3 V2
  have K03 := K02.trans K3
  simp only [wk, wt, wl, ↓reduceIte, Nat.reduceEqDiff, Nat.reduceAdd, Nat.zero_add, not_false_eq_true, not_true_eq_false, LR V3]
  refine (get_nil (x := r)).use ?_
  rintro _ h4 ⟨rfl, K4⟩
  have V4 := Keeps.var (Ch.wf K03) K4 V3
  have K04 := K03.trans K4
  obtain ⟨h5, e5, X5, K5, z5⟩ := newPos (Ch.wf K04) 0 0
  have V5 := Keeps.var (Ch.wf K04) K5 V4
  have K05 := K04.trans K5
  simp only [wk, wt, wl, ↓reduceIte, Nat.reduceEqDiff, Nat.reduceAdd, Nat.zero_add, not_false_eq_true, not_true_eq_false, moveV, posV, zero_p, e5, LP V5]
  refine (back_nil (x := pl) (y := pc)).use ?_
  rintro _ h6 ⟨rfl, K6⟩
  have V6 := Keeps.var (Ch.wf K05) K6 V5
  have K06 := K05.trans K6
  obtain ⟨h7, e7, X7, K7, z7⟩ := newPos (Ch.wf K06) 0 0
  have V7 := Keeps.var (Ch.wf K06) K7 V6
  have K07 := K06.trans K7
  simp only [wk, wt, wl, ↓reduceIte, Nat.reduceEqDiff, Nat.reduceAdd, Nat.zero_add, not_false_eq_true, not_true_eq_false, moveV, posV, zero_p, e7]
  refine (forth_nil).use ?_
  rintro _ h8 ⟨rfl, K8⟩
  have V8 := Keeps.var (Ch.wf K07) K8 V7
  have K08 := K07.trans K8
  obtain ⟨h9, e9, X9, K9, z9⟩ := newPos (Ch.wf K08) 0 0
  have V9 := Keeps.var (Ch.wf K08) K9 V8
  have K09 := K08.trans K9
  simp only [wk, wt, wl, ↓reduceIte, Nat.reduceEqDiff, Nat.reduceAdd, Nat.zero_add, not_false_eq_true, not_true_eq_false, moveV, posV, zero_p, e9]
  refine (jumps_nil).use ?_
  rintro _ h10 ⟨rfl, K10⟩
  have V10 := Keeps.var (Ch.wf K09) K10 V9
  have K010 := K09.trans K10
  simp only [wk, wt, wl, ↓reduceIte, Nat.reduceEqDiff, Nat.reduceAdd, Nat.zero_add, not_false_eq_true, not_true_eq_false, LR V10, LP V10]
  refine (set_nil (r := r) (x := pl) (y := pc)).use ?_
  rintro _ h11 ⟨rfl, K11⟩
  have K011 := K010.trans K11
  have q1 : decide ((1 : Int) = 1) = true := rfl
  have q0 : decide ((0 : Int) = 0) = true := rfl
  simp only [wk, wt, wl, ↓reduceIte, Nat.reduceEqDiff, Nat.reduceAdd, Nat.zero_add, not_false_eq_true, not_true_eq_false, q1, q0, Bool.not_false]
  refine names_nil.use ?_
  rintro _ h12 ⟨rfl, K12⟩
  have Z1 := Rd.len (P := prog) (h := h12) (s := 1) (t := 53) Rd.nil0 underlying53
  have Z2 := Rd.len (P := prog) (h := h12) (s := 2) (t := 41) Rd.nil0 underlying41
  have qn : decide (((0 : Nat) : Int) = 0) = true := rfl
  simp only [wk, wt, wl, ↓reduceIte, Nat.reduceEqDiff, Nat.reduceAdd, Nat.zero_add, not_false_eq_true, not_true_eq_false, Z1, Z2, q0, qn]
  refine awake_ok.use ?_
  rintro _ h13 ⟨rfl, K13⟩
  simp only [wk, wt, wl, ↓reduceIte, Nat.reduceEqDiff, Nat.reduceAdd, Nat.zero_add, not_false_eq_true, not_true_eq_false]
  exact (K011.trans K12).trans K13
end Go.Proofs.Ytepibodbcheobaa.Am
