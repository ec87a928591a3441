/- MarksMoves and MarksOrder told of abstract memory: they answer true. -/
import Derived.Test.YtepibodbcheobaaMg
set_option linter.unusedSimpArgs false
set_option linter.unusedVariables false
set_option maxHeartbeats 4000000
set_option maxRecDepth 20000
namespace Go.Proofs.Ytepibodbcheobaa.Am
open Go Go.RowKit Go.Proofs.Try
theorem loadCh {h : Heap} {x : Nat} {c : Int} {ov nv : Value} (V : Var h x [.int .i64 c, ov, nv]) : aload prog h 26 ⟨x, 0, none⟩ = some (chV c ov nv) :=
  V.loadA (P := prog) (t := 26) underlying26 rfl asz26
theorem loadPos {h : Heap} {x : Nat} {a c : Int} (V : Var h x [.int .i64 a, .int .i64 c]) : aload prog h 23 ⟨x, 0, none⟩ = some (posV a c) :=
  V.loadA (P := prog) (t := 23) underlying23 rfl asz23
theorem nearB_iff {pl c : Int} (h : nearB pl c = true) : (-1099511627776 ≤ pl ∧ pl ≤ 1099511627776) ∧ (-1099511627776 ≤ c ∧ c ≤ 1099511627776) := by
  simp [nearB] at h; omega
theorem eql_bb {x : Bool} : abin prog .eql 4 (.bool x) (.bool x) = some (.bool true) := by cases x <;> simp [abin, aeq, aeqF, underlying4, aeq1, wt, isAggD]
theorem marksMoves_law {ov nv : Value} {pl pc c : Int} {o : Nat} {news : List (List Int)} {h : Heap} (T : LT h nv news) (LO : abuiltin prog .len #[24] #[ov] = some (.int .i64 o)) (oo : one ov = true)
    (ho : o ≤ 1099511627776) (hn : news.length ≤ 1099511627776) :
    ACalls prog 3 #[posV pl pc, chV c ov nv] h (fun y h' => y = .bool true ∧ Keeps h h') := by
  refine acalls_of_W' func3 rfl (by kernel_rfl) (by kernel_rfl) (by simp [ntmps3]) ?_
  intro H
  have on := T.one
  have N1 := Keeps.new H 23 [.int .i64 pl, .int .i64 pc]
  have V1 := Var.new (e := 23) H (cs := [.int .i64 pl, .int .i64 pc])
  have N2 := Keeps.new (Ch.wf N1) 26 [.int .i64 c, ov, nv]
  have V2 := Var.new (e := 26) (Ch.wf N1) (cs := [.int .i64 c, ov, nv])
  simp only [new_size] at V2
  have V1 := Keeps.var (Ch.wf N1) N2 V1
  have K2 := N1.trans N2
  have T2 := T.keeps K2
  simp only [wk, wt, wl, ↓reduceIte, Nat.reduceEqDiff, Nat.reduceAdd, Nat.zero_add, not_false_eq_true, not_true_eq_false, aeff_box, boxV_pos, boxV_ch oo on, new_size, loadPos V1, loadCh V2]
  generalize (h.new 23 [.int .i64 pl, .int .i64 pc]).new 26 [.int .i64 c, ov, nv] = h2 at *
  refine (near_ok (pl := pl) (pc := pc) (c := c) oo on).use ?_
  rintro _ h3 ⟨rfl, K3⟩
  have K03 := K2.trans K3
  have T3 := T2.keeps K3
  have V1 := Keeps.var (Ch.wf K2) K3 V1
  have V2 := Keeps.var (Ch.wf K2) K3 V2
  cases hb : nearB pl c with
  | false =>
    simp only [wk, wt, wl, ↓reduceIte, Nat.reduceEqDiff, Nat.reduceAdd, Nat.zero_add, not_false_eq_true, not_true_eq_false, Bool.not_false]
    exact K03
  | true =>
    obtain ⟨hp, hc⟩ := nearB_iff hb
    simp only [wk, wt, wl, ↓reduceIte, Nat.reduceEqDiff, Nat.reduceAdd, Nat.zero_add, not_false_eq_true, not_true_eq_false, Bool.not_true, loadPos V1, loadCh V2]
    refine (move_ok (pl := pl) (pc := pc) (c := c) (o := o) T3 LO oo hp hc ho hn).use ?_
    rintro _ h4 ⟨rfl, K4⟩
    obtain ⟨m, hm⟩ : ∃ m, moveZ pl pc c o news = m := ⟨_, rfl⟩
    rw [hm]
    have K04 := K03.trans K4
    have T4 := T3.keeps K4
    have V1 := Keeps.var (Ch.wf K03) K4 V1
    have V2 := Keeps.var (Ch.wf K03) K4 V2
    obtain ⟨h5, e5, V5, K5, z5⟩ := newPos (Ch.wf K04) m.1.1 m.1.2
    have K05 := K04.trans K5
    have T5 := T4.keeps K5
    have V1 := Keeps.var (Ch.wf K04) K5 V1
    have V2 := Keeps.var (Ch.wf K04) K5 V2
    simp only [wk, wt, wl, ↓reduceIte, Nat.reduceEqDiff, Nat.reduceAdd, Nat.zero_add, not_false_eq_true, not_true_eq_false, moveV, posV, zero_p, e5]
    simp only [wk, wt, wl, ↓reduceIte, Nat.reduceEqDiff, Nat.reduceAdd, Nat.zero_add, not_false_eq_true, not_true_eq_false, loadPos V1, loadCh V2]
    refine (refMove_ok (pl := pl) (pc := pc) (c := c) (o := o) T5 LO oo hp hc ho hn).use ?_
    rintro _ h6 ⟨rfl, K6⟩
    rw [hm]
    have K06 := K05.trans K6
    have V5 := Keeps.var (Ch.wf K05) K6 V5
    obtain ⟨h7, e7, V7, K7, z7⟩ := newPos (Ch.wf K06) m.1.1 m.1.2
    have K07 := K06.trans K7
    have V5 := Keeps.var (Ch.wf K06) K7 V5
    have L5 := loadPos V5
    have L7 := loadPos V7
    have dd : ∀ x : Int, decide (x = x) = true := fun x => decide_eq_true rfl
    simp only [posV] at L5 L7
    simp only [wk, wt, wl, ↓reduceIte, Nat.reduceEqDiff, Nat.reduceAdd, Nat.zero_add, not_false_eq_true, not_true_eq_false, moveV, posV, zero_p, e7, L5, L7, eql_pos, dd, Bool.and_self, eql_bb]
    refine awake_ok.use ?_
    rintro _ h8 ⟨rfl, K8⟩
    simp only [wk, wt, wl, ↓reduceIte, Nat.reduceEqDiff, Nat.reduceAdd, Nat.zero_add, not_false_eq_true, not_true_eq_false]
    exact K07.trans K8
theorem move_mono {pl ql pc qc c : Int} {o : Nat} {news : List (List Int)} (h : pl ≤ ql) (h1 : (moveZ pl pc c o news).2 = true) (h2 : (moveZ ql qc c o news).2 = true) : (moveZ pl pc c o news).1.1 ≤ (moveZ ql qc c o news).1.1 := by
  unfold moveZ at *
  split <;> split <;> (repeat' split) <;> simp_all <;> omega
theorem marksOrder_law {ov nv : Value} {pl pc ql qc c : Int} {o : Nat} {news : List (List Int)} {h : Heap} (T : LT h nv news) (LO : abuiltin prog .len #[24] #[ov] = some (.int .i64 o)) (oo : one ov = true)
    (ho : o ≤ 1099511627776) (hn : news.length ≤ 1099511627776) :
    ACalls prog 4 #[posV pl pc, posV ql qc, chV c ov nv] h (fun y h' => y = .bool true ∧ Keeps h h') := by
  refine acalls_of_W' func4 rfl (by kernel_rfl) (by kernel_rfl) (by simp [ntmps4]) ?_
  intro H
  have on := T.one
  have N1 := Keeps.new H 23 [.int .i64 pl, .int .i64 pc]
  have V1 := Var.new (e := 23) H (cs := [.int .i64 pl, .int .i64 pc])
  have N2 := Keeps.new (Ch.wf N1) 23 [.int .i64 ql, .int .i64 qc]
  have V2 := Var.new (e := 23) (Ch.wf N1) (cs := [.int .i64 ql, .int .i64 qc])
  have N3 := Keeps.new (Ch.wf N2) 26 [.int .i64 c, ov, nv]
  have V3 := Var.new (e := 26) (Ch.wf N2) (cs := [.int .i64 c, ov, nv])
  simp only [new_size] at V2 V3
  have V1 := Keeps.var (Ch.wf N2) N3 (Keeps.var (Ch.wf N1) N2 V1)
  have V2 := Keeps.var (Ch.wf N2) N3 V2
  have K2 := (N1.trans N2).trans N3
  have T2 := T.keeps K2
  simp only [wk, wt, wl, ↓reduceIte, Nat.reduceEqDiff, Nat.reduceAdd, Nat.zero_add, not_false_eq_true, not_true_eq_false, aeff_box, boxV_pos, boxV_ch oo on, new_size, loadPos V1, loadCh V3]
  generalize ((h.new 23 [.int .i64 pl, .int .i64 pc]).new 23 [.int .i64 ql, .int .i64 qc]).new 26 [.int .i64 c, ov, nv] = h2 at *
  refine (near_ok (pl := pl) (pc := pc) (c := c) oo on).use ?_
  rintro _ h3 ⟨rfl, K3⟩
  have K03 := K2.trans K3
  have V1 := Keeps.var (Ch.wf K2) K3 V1
  have V2 := Keeps.var (Ch.wf K2) K3 V2
  have V3 := Keeps.var (Ch.wf K2) K3 V3
  cases hb : nearB pl c with
  | false =>
    simp only [wk, wt, wl, ↓reduceIte, Nat.reduceEqDiff, Nat.reduceAdd, Nat.zero_add, not_false_eq_true, not_true_eq_false, Bool.not_false]
    refine awake_ok.use ?_
    rintro _ h8 ⟨rfl, K8⟩
    simp only [wk, wt, wl, ↓reduceIte, Nat.reduceEqDiff, Nat.reduceAdd, Nat.zero_add, not_false_eq_true, not_true_eq_false]
    exact K03.trans K8
  | true =>
    simp only [wk, wt, wl, ↓reduceIte, Nat.reduceEqDiff, Nat.reduceAdd, Nat.zero_add, not_false_eq_true, not_true_eq_false, Bool.not_true, loadPos V2, loadCh V3]
    refine (near_ok (pl := ql) (pc := qc) (c := c) oo on).use ?_
    rintro _ h4 ⟨rfl, K4⟩
    have K04 := K03.trans K4
    have V1 := Keeps.var (Ch.wf K03) K4 V1
    have V2 := Keeps.var (Ch.wf K03) K4 V2
    have V3 := Keeps.var (Ch.wf K03) K4 V3
    have A0 := V1.load1 (P := prog) (t := 3) underlying3 rfl (i := 0)
    have B0 := V2.load1 (P := prog) (t := 3) underlying3 rfl (i := 0)
    simp only [List.getElem?_cons_succ, List.getElem?_cons_zero] at A0 B0
    cases hb2 : nearB ql c with
    | false =>
      simp only [wk, wt, wl, ↓reduceIte, Nat.reduceEqDiff, Nat.reduceAdd, Nat.zero_add, not_false_eq_true, not_true_eq_false, Bool.not_false]
      refine awake_ok.use ?_
      rintro _ h8 ⟨rfl, K8⟩
      simp only [wk, wt, wl, ↓reduceIte, Nat.reduceEqDiff, Nat.reduceAdd, Nat.zero_add, not_false_eq_true, not_true_eq_false]
      exact K04.trans K8
    | true =>
      by_cases hpq : ql < pl
      · have d1 := decide_eq_true hpq
        simp only [wk, wt, wl, ↓reduceIte, Nat.reduceEqDiff, Nat.reduceAdd, Nat.zero_add, not_false_eq_true, not_true_eq_false, Bool.not_true, A0, B0, d1]
        refine awake_ok.use ?_
        rintro _ h8 ⟨rfl, K8⟩
        simp only [wk, wt, wl, ↓reduceIte, Nat.reduceEqDiff, Nat.reduceAdd, Nat.zero_add, not_false_eq_true, not_true_eq_false]
        exact K04.trans K8
      · have d1 := decide_eq_false hpq
        obtain ⟨hp, hc⟩ := nearB_iff hb
        obtain ⟨hq, _⟩ := nearB_iff hb2
        have MM := @move_mono pl ql pc qc c o news (by omega)
        have T4 := T2.keeps (K3.trans K4)
        simp only [wk, wt, wl, ↓reduceIte, Nat.reduceEqDiff, Nat.reduceAdd, Nat.zero_add, not_false_eq_true, not_true_eq_false, Bool.not_true, A0, B0, d1, loadPos V1, loadCh V3]
        refine (move_ok (pl := pl) (pc := pc) (c := c) (o := o) T4 LO oo hp hc ho hn).use ?_
        rintro _ h5 ⟨rfl, K5⟩
        obtain ⟨m, hm⟩ : ∃ m, moveZ pl pc c o news = m := ⟨_, rfl⟩
        rw [hm] at MM ⊢
        have K05 := K04.trans K5
        obtain ⟨h6, e6, V6, K6, z6⟩ := newPos (Ch.wf K05) m.1.1 m.1.2
        have K06 := K05.trans K6
        have T6 := T4.keeps (K5.trans K6)
        have V2 := Keeps.var (Ch.wf K05) K6 (Keeps.var (Ch.wf K04) K5 V2)
        have V3 := Keeps.var (Ch.wf K05) K6 (Keeps.var (Ch.wf K04) K5 V3)
        simp only [wk, wt, wl, ↓reduceIte, Nat.reduceEqDiff, Nat.reduceAdd, Nat.zero_add, not_false_eq_true, not_true_eq_false, moveV, posV, zero_p, e6]
        simp only [wk, wt, wl, ↓reduceIte, Nat.reduceEqDiff, Nat.reduceAdd, Nat.zero_add, not_false_eq_true, not_true_eq_false, loadPos V2, loadCh V3]
        refine (move_ok (pl := ql) (pc := qc) (c := c) (o := o) T6 LO oo hq hc ho hn).use ?_
        rintro _ h7 ⟨rfl, K7⟩
        obtain ⟨m2, hm2⟩ : ∃ m, moveZ ql qc c o news = m := ⟨_, rfl⟩
        rw [hm2] at MM ⊢
        have K07 := K06.trans K7
        obtain ⟨h8, e8, V8, K8, z8⟩ := newPos (Ch.wf K07) m2.1.1 m2.1.2
        have K08 := K07.trans K8
        have V6 := Keeps.var (Ch.wf K07) K8 (Keeps.var (Ch.wf K06) K7 V6)
        have A0 := V6.load1 (P := prog) (t := 3) underlying3 rfl (i := 0)
        have B0 := V8.load1 (P := prog) (t := 3) underlying3 rfl (i := 0)
        simp only [List.getElem?_cons_succ, List.getElem?_cons_zero] at A0 B0
        have fin : ∀ {hx : Heap}, Keeps h8 hx → Keeps h hx := fun K => K08.trans K
        cases g1 : m.2 with
        | false =>
          simp only [wk, wt, wl, ↓reduceIte, Nat.reduceEqDiff, Nat.reduceAdd, Nat.zero_add, not_false_eq_true, not_true_eq_false, moveV, posV, zero_p, e8, g1, Bool.not_false]
          refine awake_ok.use ?_
          rintro _ h9 ⟨rfl, K9⟩
          simp only [wk, wt, wl, ↓reduceIte, Nat.reduceEqDiff, Nat.reduceAdd, Nat.zero_add, not_false_eq_true, not_true_eq_false]
          exact fin K9
        | true =>
          cases g2 : m2.2 with
          | false =>
            simp only [wk, wt, wl, ↓reduceIte, Nat.reduceEqDiff, Nat.reduceAdd, Nat.zero_add, not_false_eq_true, not_true_eq_false, moveV, posV, zero_p, e8, g1, g2, Bool.not_false, Bool.not_true]
            refine awake_ok.use ?_
            rintro _ h9 ⟨rfl, K9⟩
            simp only [wk, wt, wl, ↓reduceIte, Nat.reduceEqDiff, Nat.reduceAdd, Nat.zero_add, not_false_eq_true, not_true_eq_false]
            exact fin K9
          | true =>
            have dm := decide_eq_true (MM g1 g2)
            simp only [wk, wt, wl, ↓reduceIte, Nat.reduceEqDiff, Nat.reduceAdd, Nat.zero_add, not_false_eq_true, not_true_eq_false, moveV, posV, zero_p, e8, g1, g2, Bool.not_true, A0, B0, dm]
            refine awake_ok.use ?_
            rintro _ h9 ⟨rfl, K9⟩
            simp only [wk, wt, wl, ↓reduceIte, Nat.reduceEqDiff, Nat.reduceAdd, Nat.zero_add, not_false_eq_true, not_true_eq_false]
            exact fin K9
end Go.Proofs.Ytepibodbcheobaa.Am
