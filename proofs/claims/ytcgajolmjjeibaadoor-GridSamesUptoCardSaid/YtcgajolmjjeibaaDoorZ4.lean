/- The texts of this seat, one behind another (part 4 of 11): the frame (an abstract machine), the contracts of functions, the laws. -/
import Derived.Test.YtcgajolmjjeibaaDoorZ3
import Derived.Test.YtcgajolmjjeibaaDoorAmDraw6
section
/- Grids of the document: contracts of Has, inside, by walks. -/
set_option linter.unusedSimpArgs false
set_option linter.unusedVariables false
set_option maxHeartbeats 4000000
set_option maxRecDepth 20000
namespace Go.Proofs.YtcgajolmjjeibaaDoor.Am
open Go Go.RowKit Go.Proofs.Tryd
/-- A tree of orders, told by what holds behind it. -/
theorem adraw_tree_mid {P : Program} {n : Nat} {ops : Array Oper} {Q : Exit → Tm → Heap → Prop} {tm : Tm} {h : Heap} (M : Tm → Heap → Prop) (π : OTr) (hm : P.follows .mixedOrders = true) (hall : opsOk P n ops = true) (hsz : π.len = ops.size) (hor : treeOk P ops π (Array.replicate ops.size false) = true)
    (H : TRo P ops (fun e tm h => e = .normal ∧ M tm h) π tm h) (K : ∀ tm h, M tm h → Q .normal tm h) : ADraw P n ops Q tm h := fun id =>
  AWp.mono (adraw_tree π hm hall hsz hor (fun v tm tm' h e => absurd e.1 (by simp [raised])) H id) fun e tm h q => by rw [q.1]; exact K tm h q.2
/-- Two variables made, in either order, then set. -/
theorem two_vars {h : Heap} (H : Wf h) {e1 e2 t1 t2 : TypeId} {z1 z2 : List Value} {v1 v2 : Value} (a1 : asz prog t1 = some v1.cells.size) (a2 : asz prog t2 = some v2.cells.size) (l1 : z1.length = v1.cells.size) (l2 : z2.length = v2.cells.size) (o1 : v1.cells.all one = true) (o2 : v2.cells.all one = true) :
    (∃ h3 h4, storeV prog ((h.new e1 z1).new e2 z2) t1 (.pointer (some ⟨h.size, 0, none⟩)) v1 = some (undef, h3) ∧ storeV prog h3 t2 (.pointer (some ⟨h.size + 1, 0, none⟩)) v2 = some (undef, h4) ∧ Var h4 h.size v1.cells.toList ∧ Var h4 (h.size + 1) v2.cells.toList ∧ Keeps h h4) ∧
    (∃ h3 h4, storeV prog ((h.new e2 z2).new e1 z1) t1 (.pointer (some ⟨h.size + 1, 0, none⟩)) v1 = some (undef, h3) ∧ storeV prog h3 t2 (.pointer (some ⟨h.size, 0, none⟩)) v2 = some (undef, h4) ∧ Var h4 (h.size + 1) v1.cells.toList ∧ Var h4 h.size v2.cells.toList ∧ Keeps h h4) := by
  have ov1 : over z1 0 v1.cells.toList = v1.cells.toList := over_all (by simp [l1])
  have ov2 : over z2 0 v2.cells.toList = v2.cells.toList := over_all (by simp [l2])
  constructor
  · have N1 := Keeps.new H e1 z1
    have N2 := Keeps.new (Ch.wf N1) e2 z2
    have V1 := Keeps.var (Ch.wf N1) N2 (Var.new (e := e1) H (cs := z1))
    have V2 := Var.new (e := e2) (Ch.wf N1) (cs := z2)
    rw [newSz] at V2
    obtain ⟨h3, e3, W1, C3, q3⟩ := V1.store (P := prog) (Ch.wf N2) (i := 0) a1 (by omega) o1
    have W2 := Ch.var (Ch.wf N2) C3 V2 (by omega)
    obtain ⟨h4, e4, X2, C4, q4⟩ := W2.store (P := prog) (Ch.wf C3) (i := 0) a2 (by omega) o2
    have X1 := Ch.var (Ch.wf C3) C4 W1 (by omega)
    rw [ov1] at X1; rw [ov2] at X2
    exact ⟨h3, h4, e3, e4, X1, X2, ((N1.trans N2).step C3 fun b e => by omega).step C4 fun b e => by omega⟩
  · have N1 := Keeps.new H e2 z2
    have N2 := Keeps.new (Ch.wf N1) e1 z1
    have V1 := Keeps.var (Ch.wf N1) N2 (Var.new (e := e2) H (cs := z2))
    have V2 := Var.new (e := e1) (Ch.wf N1) (cs := z1)
    rw [newSz] at V2
    obtain ⟨h3, e3, W1, C3, q3⟩ := V2.store (P := prog) (Ch.wf N2) (i := 0) a1 (by omega) o1
    have W2 := Ch.var (Ch.wf N2) C3 V1 (by omega)
    obtain ⟨h4, e4, X2, C4, q4⟩ := W2.store (P := prog) (Ch.wf C3) (i := 0) a2 (by omega) o2
    have X1 := Ch.var (Ch.wf C3) C4 W1 (by omega)
    rw [ov1] at X1; rw [ov2] at X2
    exact ⟨h3, h4, e3, e4, X1, X2, ((N1.trans N2).step C3 fun b e => by omega).step C4 fun b e => by omega⟩
theorem newPos {h : Heap} {tm : Tm} : aeff prog tm h (.alloc 53) = some (.pointer (some ⟨h.size, 0, none⟩), h.new 53 [.int .i64 0, .int .i64 0]) := by have := alloc_eq (tm := tm) (h := h) azero53 asz53 (by simp [Value.cells, one]); simpa [Value.cells] using this
theorem boxV_region {h : Heap} {a b c d e : Int} : boxV prog h 55 (.agg #[.int .i64 a, .int .i64 b, .int .i64 c, .int .i64 d, .int .i64 e]) = some (.pointer (some ⟨h.size, 0, none⟩), h.new 55 [.int .i64 a, .int .i64 b, .int .i64 c, .int .i64 d, .int .i64 e]) := by
  simp [boxV, asz55, Value.cells, one_int]
theorem boxV_pos {h : Heap} {a b : Int} : boxV prog h 53 (.agg #[.int .i64 a, .int .i64 b]) = some (.pointer (some ⟨h.size, 0, none⟩), h.new 53 [.int .i64 a, .int .i64 b]) := by
  simp [boxV, asz53, Value.cells, one_int]
abbrev ii (x : Int) : Value := .int .i64 x
theorem pos_load {h : Heap} {b : Nat} {x y : Int} (V : Var h b [.int .i64 x, .int .i64 y]) : aload prog h 3 ⟨b, 0, none⟩ = some (.int .i64 x) ∧ aload prog h 3 ⟨b, 1, none⟩ = some (.int .i64 y) ∧ aload prog h 53 ⟨b, 0, none⟩ = some (.agg #[.int .i64 x, .int .i64 y]) :=
  ⟨V.load1 (P := prog) (t := 3) underlying3 rfl (i := 0), V.load1 (P := prog) (t := 3) underlying3 rfl (i := 1), V.loadA (P := prog) (t := 53) underlying53 rfl asz53⟩
theorem has_ok {h : Heap} {a b c d e p q : Int} : ACalls prog 52 #[.agg #[.int .i64 a, .int .i64 b, .int .i64 c, .int .i64 d, .int .i64 e], .agg #[.int .i64 p, .int .i64 q]] h (fun v h' => ∃ x : Bool, v = .bool x ∧ Keeps h h') := by
  refine acalls_of_W' func52 rfl (by kernel_rfl) (by kernel_rfl) (by simp [ntmps52]) ?_
  intro H
  have N1 := Keeps.new H 55 [.int .i64 a, .int .i64 b, .int .i64 c, .int .i64 d, .int .i64 e]
  have V1 := Var.new (e := 55) H (cs := [.int .i64 a, .int .i64 b, .int .i64 c, .int .i64 d, .int .i64 e])
  have N2 := Keeps.new (Ch.wf N1) 53 [.int .i64 p, .int .i64 q]
  have V2 := Var.new (e := 53) (Ch.wf N1) (cs := [.int .i64 p, .int .i64 q])
  have W1 := Keeps.var (Ch.wf N1) N2 V1
  rw [newSz] at V2
  simp only [wk, wt, wl, ↓reduceIte, Nat.reduceEqDiff, Nat.reduceAdd, Nat.zero_add, not_false_eq_true, not_true_eq_false, aeff_box, boxV_region, boxV_pos, newSz]
  have K2 := N1.trans N2
  have z2 : ((h.new 55 [.int .i64 a, .int .i64 b, .int .i64 c, .int .i64 d, .int .i64 e]).new 53 [.int .i64 p, .int .i64 q]).size = h.size + 2 := by rw [newSz, newSz]
  generalize (h.new 55 [.int .i64 a, .int .i64 b, .int .i64 c, .int .i64 d, .int .i64 e]).new 53 [.int .i64 p, .int .i64 q] = h2 at *
  have lf : aload prog h2 53 ⟨h.size, 0, none⟩ = some (.agg #[.int .i64 a, .int .i64 b]) := W1.loadP (P := prog) (t := 53) underlying53 rfl asz53 (by simp)
  have lt : aload prog h2 53 ⟨h.size, 2, none⟩ = some (.agg #[.int .i64 c, .int .i64 d]) := W1.loadP (P := prog) (t := 53) underlying53 rfl asz53 (by simp)
  have H2 := Ch.wf K2
  refine adraw_inv (fun L tm hh => (tm 2 = pt h.size ∧ tm 3 = pt (h.size + 1) ∧ tm 4 = .bool false ∧ Keeps h2 hh) ∧ (L 0 = true → tm 7 = .pointer (some ⟨h.size, 0, none⟩)) ∧ (L 1 = true → tm 8 = .agg #[.int .i64 a, .int .i64 b]) ∧ (L 2 = true → tm 9 = .pointer (some ⟨h.size, 2, none⟩)) ∧ (L 3 = true → tm 10 = .agg #[.int .i64 c, .int .i64 d]) ∧
    (L 4 = true → ∃ x, tm 5 = pt x ∧ h2.size ≤ x ∧ Var hh x (if L 6 = true then [.int .i64 a, .int .i64 b] else [.int .i64 0, .int .i64 0])) ∧ (L 5 = true → ∃ x, tm 6 = pt x ∧ h2.size ≤ x ∧ Var hh x (if L 7 = true then [.int .i64 c, .int .i64 d] else [.int .i64 0, .int .i64 0])) ∧ (L 4 = true → L 5 = true → tm 5 ≠ tm 6) ∧ (L 6 = true → L 4 = true) ∧ (L 7 = true → L 5 = true)) mixed (by kernel_rfl) (by kernel_rfl) ?_ ?_ ?_
  · refine ⟨⟨(by first | rfl | (simp only [wk, wt, wl, ↓reduceIte, Nat.reduceEqDiff, Nat.reduceAdd, Nat.zero_add, not_false_eq_true, not_true_eq_false]; done) | (simp only [wk, wt, wl, ↓reduceIte, Nat.reduceEqDiff, Nat.reduceAdd, Nat.zero_add, not_false_eq_true, not_true_eq_false]; rfl)), (by first | rfl | (simp only [wk, wt, wl, ↓reduceIte, Nat.reduceEqDiff, Nat.reduceAdd, Nat.zero_add, not_false_eq_true, not_true_eq_false]; done) | (simp only [wk, wt, wl, ↓reduceIte, Nat.reduceEqDiff, Nat.reduceAdd, Nat.zero_add, not_false_eq_true, not_true_eq_false]; rfl)), (by first | rfl | (simp only [wk, wt, wl, ↓reduceIte, Nat.reduceEqDiff, Nat.reduceAdd, Nat.zero_add, not_false_eq_true, not_true_eq_false]; done) | (simp only [wk, wt, wl, ↓reduceIte, Nat.reduceEqDiff, Nat.reduceAdd, Nat.zero_add, not_false_eq_true, not_true_eq_false]; rfl)), Keeps.refl H2⟩, ?_, ?_, ?_, ?_, ?_, ?_, ?_, ?_, ?_⟩ <;> exact fun e => by cases e
  · intro i o ho L tm hh hI hl hp
    obtain ⟨⟨t2, t3, t4, K⟩, i0, i1, i2, i3, i4, i5, i45, i64, i75⟩ := hI
    have V0 := Keeps.var H2 K W1
    have lf : aload prog hh 53 ⟨h.size, 0, none⟩ = some (.agg #[.int .i64 a, .int .i64 b]) := V0.loadP (P := prog) (t := 53) underlying53 rfl asz53 (by simp)
    have lt : aload prog hh 53 ⟨h.size, 2, none⟩ = some (.agg #[.int .i64 c, .int .i64 d]) := V0.loadP (P := prog) (t := 53) underlying53 rfl asz53 (by simp)
    rcases i with _ | _ | _ | _ | _ | _ | _ | _ | i
    all_goals simp only [List.getElem?_toArray, List.getElem?_cons_zero, List.getElem?_cons_succ, List.getElem?_nil, Option.some.injEq, reduceCtorEq] at ho
    all_goals subst ho
    all_goals simp [Region.binds] at hp
    · simp only [wk, wt, wl, ↓reduceIte, Nat.reduceEqDiff, Nat.reduceAdd, Nat.zero_add, not_false_eq_true, not_true_eq_false, we, t2, t3, t4, pt]
      exact ⟨K, fun _ => trivial, i1, i2, i3, i4, i5, i45, i64, i75⟩
    · simp only [wk, wt, wl, ↓reduceIte, Nat.reduceEqDiff, Nat.reduceAdd, Nat.zero_add, not_false_eq_true, not_true_eq_false, we, t2, t3, t4, i0 hp, lf, pt]
      exact ⟨K, fun _ => trivial, fun _ => trivial, i2, i3, i4, i5, i45, i64, i75⟩
    · simp only [wk, wt, wl, ↓reduceIte, Nat.reduceEqDiff, Nat.reduceAdd, Nat.zero_add, not_false_eq_true, not_true_eq_false, we, t2, t3, t4, pt]
      exact ⟨K, i0, i1, fun _ => trivial, i3, i4, i5, i45, i64, i75⟩
    · simp only [wk, wt, wl, ↓reduceIte, Nat.reduceEqDiff, Nat.reduceAdd, Nat.zero_add, not_false_eq_true, not_true_eq_false, we, t2, t3, t4, i2 hp, lt, pt]
      exact ⟨K, i0, i1, fun _ => trivial, fun _ => trivial, i4, i5, i45, i64, i75⟩
    · have h6 : L 6 = false := by cases e : L 6 with
        | false => rfl
        | true => rw [i64 e] at hl; cases hl
      have N := Keeps.new (Ch.wf K) 53 [.int .i64 0, .int .i64 0]
      have V := Var.new (e := 53) (Ch.wf K) (cs := [.int .i64 0, .int .i64 0])
      simp only [wk, wt, wl, ↓reduceIte, Nat.reduceEqDiff, Nat.reduceAdd, Nat.zero_add, not_false_eq_true, not_true_eq_false, we, t2, t3, t4, pt, newPos]
      refine ⟨K.trans N, i0, i1, i2, i3, fun _ => ⟨hh.size, rfl, Ch.le K, ?_⟩, fun e => ?_, fun _ e => ?_, fun _ => rfl, i75⟩
      · rw [if_neg (by show ¬ L 6 = true; rw [h6]; decide)]; exact V
      · obtain ⟨x, e1, e2, e3⟩ := i5 e
        exact ⟨x, e1, e2, Keeps.var (Ch.wf K) N e3⟩
      · obtain ⟨x, e1, e2, e3⟩ := i5 e
        have := e3.lt (Ch.wf K)
        rw [e1]; intro c; cases c; omega
    · have h7 : L 7 = false := by cases e : L 7 with
        | false => rfl
        | true => rw [i75 e] at hl; cases hl
      have N := Keeps.new (Ch.wf K) 53 [.int .i64 0, .int .i64 0]
      have V := Var.new (e := 53) (Ch.wf K) (cs := [.int .i64 0, .int .i64 0])
      simp only [wk, wt, wl, ↓reduceIte, Nat.reduceEqDiff, Nat.reduceAdd, Nat.zero_add, not_false_eq_true, not_true_eq_false, we, t2, t3, t4, pt, newPos]
      refine ⟨K.trans N, i0, i1, i2, i3, fun e => ?_, fun _ => ⟨hh.size, rfl, Ch.le K, ?_⟩, fun e _ => ?_, i64, fun _ => rfl⟩
      · obtain ⟨x, e1, e2, e3⟩ := i4 e
        exact ⟨x, e1, e2, Keeps.var (Ch.wf K) N e3⟩
      · rw [if_neg (by show ¬ L 7 = true; rw [h7]; decide)]; exact V
      · obtain ⟨x, e1, e2, e3⟩ := i4 e
        have := e3.lt (Ch.wf K)
        rw [e1]; intro c; cases c; omega
    · obtain ⟨x, e1, e2, e3⟩ := i4 (by simp [hp])
      obtain ⟨y, f1, f2, f3⟩ := i5 (by simp [hp])
      rw [if_neg (by rw [hl]; decide)] at e3
      have hxy : x ≠ y := fun e => i45 (by simp [hp]) (by simp [hp]) (by rw [e1, f1, e])
      obtain ⟨h3, s3, V3, C3, z3⟩ := e3.store (P := prog) (t := 53) (v := .agg #[.int .i64 a, .int .i64 b]) (i := 0) (Ch.wf K) asz53 (by simp [Value.cells]) (by simp [Value.cells, one_int])
      have ov : over [.int .i64 0, .int .i64 0] 0 (Value.agg #[.int .i64 a, .int .i64 b]).cells.toList = [.int .i64 a, .int .i64 b] := by rw [over_all (by simp [Value.cells])]; simp [Value.cells]
      rw [ov] at V3
      have q1 : L 1 = true := by simp [hp]
      have x1 := i1 q1
      simp only [pt] at e1
      simp only [wk, wt, wl, ↓reduceIte, Nat.reduceEqDiff, Nat.reduceAdd, Nat.zero_add, not_false_eq_true, not_true_eq_false, we, t2, t3, t4, e1, x1, s3, pt]
      refine ⟨K.step C3 fun b e => by omega, i0, fun _ => trivial, i2, i3, fun _ => ⟨x, rfl, e2, ?_⟩, fun e => ⟨y, f1, f2, ?_⟩, fun _ _ => ?_, fun _ => by simp [hp], i75⟩
      · rw [if_pos (by rfl)]; exact V3
      · exact Ch.var (Ch.wf K) C3 f3 (fun e => hxy e.symm)
      · rw [f1]; intro c; cases c; exact hxy rfl
    · obtain ⟨x, e1, e2, e3⟩ := i4 (by simp [hp])
      obtain ⟨y, f1, f2, f3⟩ := i5 (by simp [hp])
      rw [if_neg (by rw [hl]; decide)] at f3
      have hxy : x ≠ y := fun e => i45 (by simp [hp]) (by simp [hp]) (by rw [e1, f1, e])
      obtain ⟨h3, s3, V3, C3, z3⟩ := f3.store (P := prog) (t := 53) (v := .agg #[.int .i64 c, .int .i64 d]) (i := 0) (Ch.wf K) asz53 (by simp [Value.cells]) (by simp [Value.cells, one_int])
      have ov : over [.int .i64 0, .int .i64 0] 0 (Value.agg #[.int .i64 c, .int .i64 d]).cells.toList = [.int .i64 c, .int .i64 d] := by rw [over_all (by simp [Value.cells])]; simp [Value.cells]
      rw [ov] at V3
      have q1 : L 3 = true := by simp [hp]
      have x1 := i3 q1
      simp only [pt] at f1
      simp only [wk, wt, wl, ↓reduceIte, Nat.reduceEqDiff, Nat.reduceAdd, Nat.zero_add, not_false_eq_true, not_true_eq_false, we, t2, t3, t4, f1, x1, s3, pt]
      refine ⟨K.step C3 fun b e => by omega, i0, i1, i2, fun _ => trivial, fun e => ⟨x, e1, e2, ?_⟩, fun _ => ⟨y, rfl, f2, ?_⟩, fun _ _ => ?_, i64, fun _ => by simp [hp]⟩
      · exact Ch.var (Ch.wf K) C3 e3 hxy
      · rw [if_pos (by rfl)]; exact V3
      · rw [e1]; intro c; cases c; exact hxy rfl
  · intro L tm hh hI hall
    obtain ⟨⟨t2, t3, t4, K⟩, i0, i1, i2, i3, i4, i5, i45, i64, i75⟩ := hI
    have q : ∀ i, i < 8 → L i = true := fun i hi => hall i (by simpa using hi)
    obtain ⟨x, t5, hx, Vx⟩ := i4 (q 4 (by decide))
    obtain ⟨y, t6, hy, Vy⟩ := i5 (q 5 (by decide))
    rw [if_pos (q 6 (by decide))] at Vx
    rw [if_pos (q 7 (by decide))] at Vy
    have hxy : x ≠ y := fun e => i45 (q 4 (by decide)) (q 5 (by decide)) (by rw [t5, t6, e])
    clear i0 i1 i2 i3 i4 i5 i45 i64 i75 hall q
    have VR := Keeps.var H2 K W1
    have VP := Keeps.var H2 K V2
    obtain ⟨p0, p1, _⟩ := pos_load VP
    have r4 : aload prog hh 3 ⟨h.size, 4, none⟩ = some (.int .i64 e) := VR.load1 (P := prog) (t := 3) underlying3 rfl (i := 4)
    obtain ⟨x0, x1, xA⟩ := pos_load Vx
    obtain ⟨y0, y1, yA⟩ := pos_load Vy
    have K3 := K2.trans K
    by_cases g1 : c < a
    · have d1 := decide_eq_true g1
      obtain ⟨h3, e3, X3, C3, z3⟩ := Vx.store (P := prog) (t := 53) (v := .agg #[.int .i64 c, .int .i64 d]) (i := 0) (Ch.wf K) asz53 (by simp [Value.cells]) (by simp [Value.cells, one_int])
      have ov1 : over [.int .i64 a, .int .i64 b] 0 (Value.agg #[.int .i64 c, .int .i64 d]).cells.toList = [.int .i64 c, .int .i64 d] := by rw [over_all (by simp [Value.cells])]; simp [Value.cells]
      rw [ov1] at X3
      have Y3 := Ch.var (Ch.wf K) C3 Vy (fun e => hxy e.symm)
      have R3 := Ch.var (Ch.wf K) C3 VR (by omega)
      have P3 := Ch.var (Ch.wf K) C3 VP (by omega)
      obtain ⟨h4, e4, Y4, C4, z4⟩ := Y3.store (P := prog) (t := 53) (v := .agg #[.int .i64 a, .int .i64 b]) (i := 0) (Ch.wf C3) asz53 (by simp [Value.cells]) (by simp [Value.cells, one_int])
      have ov2 : over [.int .i64 c, .int .i64 d] 0 (Value.agg #[.int .i64 a, .int .i64 b]).cells.toList = [.int .i64 a, .int .i64 b] := by rw [over_all (by simp [Value.cells])]; simp [Value.cells]
      rw [ov2] at Y4
      have X4 := Ch.var (Ch.wf C3) C4 X3 hxy
      have R4 := Ch.var (Ch.wf C3) C4 R3 (by omega)
      have P4 := Ch.var (Ch.wf C3) C4 P3 (by omega)
      have K4 := (K2.trans ((K.step C3 fun b e => by omega).step C4 fun b e => by omega))
      obtain ⟨p0, p1, _⟩ := pos_load P4
      have r4 : aload prog h4 3 ⟨h.size, 4, none⟩ = some (.int .i64 e) := R4.load1 (P := prog) (t := 3) underlying3 rfl (i := 4)
      simp only [wk, wt, wl, ↓reduceIte, Nat.reduceEqDiff, Nat.reduceAdd, Nat.zero_add, not_false_eq_true, not_true_eq_false, t2, t3, t4, t5, t6, pt, x0, x1, xA, y0, y1, yA, d1, e3, e4]
      clear x0 x1 xA y0 y1 yA
      obtain ⟨x0, x1, _⟩ := pos_load X4
      obtain ⟨y0, y1, _⟩ := pos_load Y4
      simp only [wk, wt, wl, ↓reduceIte, Nat.reduceEqDiff, Nat.reduceAdd, Nat.zero_add, not_false_eq_true, not_true_eq_false, t2, t3, t4, t5, t6, pt, p0, p1, r4, x0, x1, y0, y1, mxV, mnV]
      repeat' (first
      | (with_reducible refine condK_dec (fun hc => ?_) (fun hc => ?_) <;> simp only [wk, wt, wl, ↓reduceIte, Nat.reduceEqDiff, Nat.reduceAdd, Nat.zero_add, not_false_eq_true, not_true_eq_false, t2, t3, t4, t5, t6, pt, p0, p1, r4, x0, x1, y0, y1, mxV, mnV, hc])
      | (with_reducible refine condK_split (fun hc => ?_) (fun hc => ?_) <;> simp only [wk, wt, wl, ↓reduceIte, Nat.reduceEqDiff, Nat.reduceAdd, Nat.zero_add, not_false_eq_true, not_true_eq_false, t2, t3, t4, t5, t6, pt, p0, p1, r4, x0, x1, y0, y1, mxV, mnV, hc])
      | (with_reducible refine gateO_dec (fun hc => ?_) (fun hc => ?_) <;> simp only [wk, wt, wl, ↓reduceIte, Nat.reduceEqDiff, Nat.reduceAdd, Nat.zero_add, not_false_eq_true, not_true_eq_false, t2, t3, t4, t5, t6, pt, p0, p1, r4, x0, x1, y0, y1, mxV, mnV, hc])
      | (with_reducible refine gateO_decF (fun hc => ?_) (fun hc => ?_) <;> simp only [wk, wt, wl, ↓reduceIte, Nat.reduceEqDiff, Nat.reduceAdd, Nat.zero_add, not_false_eq_true, not_true_eq_false, t2, t3, t4, t5, t6, pt, p0, p1, r4, x0, x1, y0, y1, mxV, mnV, hc])
      | (with_reducible refine gateO_boolT (fun hc => ?_) (fun hc => ?_) <;> simp only [wk, wt, wl, ↓reduceIte, Nat.reduceEqDiff, Nat.reduceAdd, Nat.zero_add, not_false_eq_true, not_true_eq_false, t2, t3, t4, t5, t6, pt, p0, p1, r4, x0, x1, y0, y1, mxV, mnV, hc])
      | (with_reducible refine gateO_boolF (fun hc => ?_) (fun hc => ?_) <;> simp only [wk, wt, wl, ↓reduceIte, Nat.reduceEqDiff, Nat.reduceAdd, Nat.zero_add, not_false_eq_true, not_true_eq_false, t2, t3, t4, t5, t6, pt, p0, p1, r4, x0, x1, y0, y1, mxV, mnV, hc]))
      all_goals exact ⟨_, rfl, K4⟩
    · have d1 := decide_eq_false g1
      by_cases g2 : c = a
      · have d2 := decide_eq_true g2
        by_cases g3 : d < b
        · have d3 := decide_eq_true g3
          obtain ⟨h3, e3, X3, C3, z3⟩ := Vx.store (P := prog) (t := 53) (v := .agg #[.int .i64 c, .int .i64 d]) (i := 0) (Ch.wf K) asz53 (by simp [Value.cells]) (by simp [Value.cells, one_int])
          have ov1 : over [.int .i64 a, .int .i64 b] 0 (Value.agg #[.int .i64 c, .int .i64 d]).cells.toList = [.int .i64 c, .int .i64 d] := by rw [over_all (by simp [Value.cells])]; simp [Value.cells]
          rw [ov1] at X3
          have Y3 := Ch.var (Ch.wf K) C3 Vy (fun e => hxy e.symm)
          have R3 := Ch.var (Ch.wf K) C3 VR (by omega)
          have P3 := Ch.var (Ch.wf K) C3 VP (by omega)
          obtain ⟨h4, e4, Y4, C4, z4⟩ := Y3.store (P := prog) (t := 53) (v := .agg #[.int .i64 a, .int .i64 b]) (i := 0) (Ch.wf C3) asz53 (by simp [Value.cells]) (by simp [Value.cells, one_int])
          have ov2 : over [.int .i64 c, .int .i64 d] 0 (Value.agg #[.int .i64 a, .int .i64 b]).cells.toList = [.int .i64 a, .int .i64 b] := by rw [over_all (by simp [Value.cells])]; simp [Value.cells]
          rw [ov2] at Y4
          have X4 := Ch.var (Ch.wf C3) C4 X3 hxy
          have R4 := Ch.var (Ch.wf C3) C4 R3 (by omega)
          have P4 := Ch.var (Ch.wf C3) C4 P3 (by omega)
          have K4 := (K2.trans ((K.step C3 fun b e => by omega).step C4 fun b e => by omega))
          obtain ⟨p0, p1, _⟩ := pos_load P4
          have r4 : aload prog h4 3 ⟨h.size, 4, none⟩ = some (.int .i64 e) := R4.load1 (P := prog) (t := 3) underlying3 rfl (i := 4)
          simp only [wk, wt, wl, ↓reduceIte, Nat.reduceEqDiff, Nat.reduceAdd, Nat.zero_add, not_false_eq_true, not_true_eq_false, t2, t3, t4, t5, t6, pt, x0, x1, xA, y0, y1, yA, d1, d2, d3, e3, e4]
          clear x0 x1 xA y0 y1 yA
          obtain ⟨x0, x1, _⟩ := pos_load X4
          obtain ⟨y0, y1, _⟩ := pos_load Y4
          simp only [wk, wt, wl, ↓reduceIte, Nat.reduceEqDiff, Nat.reduceAdd, Nat.zero_add, not_false_eq_true, not_true_eq_false, t2, t3, t4, t5, t6, pt, p0, p1, r4, x0, x1, y0, y1, mxV, mnV]
          repeat' (first
      | (with_reducible refine condK_dec (fun hc => ?_) (fun hc => ?_) <;> simp only [wk, wt, wl, ↓reduceIte, Nat.reduceEqDiff, Nat.reduceAdd, Nat.zero_add, not_false_eq_true, not_true_eq_false, t2, t3, t4, t5, t6, pt, p0, p1, r4, x0, x1, y0, y1, mxV, mnV, hc])
      | (with_reducible refine condK_split (fun hc => ?_) (fun hc => ?_) <;> simp only [wk, wt, wl, ↓reduceIte, Nat.reduceEqDiff, Nat.reduceAdd, Nat.zero_add, not_false_eq_true, not_true_eq_false, t2, t3, t4, t5, t6, pt, p0, p1, r4, x0, x1, y0, y1, mxV, mnV, hc])
      | (with_reducible refine gateO_dec (fun hc => ?_) (fun hc => ?_) <;> simp only [wk, wt, wl, ↓reduceIte, Nat.reduceEqDiff, Nat.reduceAdd, Nat.zero_add, not_false_eq_true, not_true_eq_false, t2, t3, t4, t5, t6, pt, p0, p1, r4, x0, x1, y0, y1, mxV, mnV, hc])
      | (with_reducible refine gateO_decF (fun hc => ?_) (fun hc => ?_) <;> simp only [wk, wt, wl, ↓reduceIte, Nat.reduceEqDiff, Nat.reduceAdd, Nat.zero_add, not_false_eq_true, not_true_eq_false, t2, t3, t4, t5, t6, pt, p0, p1, r4, x0, x1, y0, y1, mxV, mnV, hc])
      | (with_reducible refine gateO_boolT (fun hc => ?_) (fun hc => ?_) <;> simp only [wk, wt, wl, ↓reduceIte, Nat.reduceEqDiff, Nat.reduceAdd, Nat.zero_add, not_false_eq_true, not_true_eq_false, t2, t3, t4, t5, t6, pt, p0, p1, r4, x0, x1, y0, y1, mxV, mnV, hc])
      | (with_reducible refine gateO_boolF (fun hc => ?_) (fun hc => ?_) <;> simp only [wk, wt, wl, ↓reduceIte, Nat.reduceEqDiff, Nat.reduceAdd, Nat.zero_add, not_false_eq_true, not_true_eq_false, t2, t3, t4, t5, t6, pt, p0, p1, r4, x0, x1, y0, y1, mxV, mnV, hc]))
          all_goals exact ⟨_, rfl, K4⟩
        · have d3 := decide_eq_false g3
          simp only [wk, wt, wl, ↓reduceIte, Nat.reduceEqDiff, Nat.reduceAdd, Nat.zero_add, not_false_eq_true, not_true_eq_false, t2, t3, t4, t5, t6, pt, x0, x1, xA, y0, y1, yA, d1, d2, d3]
          clear x0 x1 xA y0 y1 yA
          obtain ⟨x0, x1, _⟩ := pos_load Vx
          obtain ⟨y0, y1, _⟩ := pos_load Vy
          simp only [wk, wt, wl, ↓reduceIte, Nat.reduceEqDiff, Nat.reduceAdd, Nat.zero_add, not_false_eq_true, not_true_eq_false, t2, t3, t4, t5, t6, pt, p0, p1, r4, x0, x1, y0, y1, mxV, mnV]
          repeat' (first
      | (with_reducible refine condK_dec (fun hc => ?_) (fun hc => ?_) <;> simp only [wk, wt, wl, ↓reduceIte, Nat.reduceEqDiff, Nat.reduceAdd, Nat.zero_add, not_false_eq_true, not_true_eq_false, t2, t3, t4, t5, t6, pt, p0, p1, r4, x0, x1, y0, y1, mxV, mnV, hc])
      | (with_reducible refine condK_split (fun hc => ?_) (fun hc => ?_) <;> simp only [wk, wt, wl, ↓reduceIte, Nat.reduceEqDiff, Nat.reduceAdd, Nat.zero_add, not_false_eq_true, not_true_eq_false, t2, t3, t4, t5, t6, pt, p0, p1, r4, x0, x1, y0, y1, mxV, mnV, hc])
      | (with_reducible refine gateO_dec (fun hc => ?_) (fun hc => ?_) <;> simp only [wk, wt, wl, ↓reduceIte, Nat.reduceEqDiff, Nat.reduceAdd, Nat.zero_add, not_false_eq_true, not_true_eq_false, t2, t3, t4, t5, t6, pt, p0, p1, r4, x0, x1, y0, y1, mxV, mnV, hc])
      | (with_reducible refine gateO_decF (fun hc => ?_) (fun hc => ?_) <;> simp only [wk, wt, wl, ↓reduceIte, Nat.reduceEqDiff, Nat.reduceAdd, Nat.zero_add, not_false_eq_true, not_true_eq_false, t2, t3, t4, t5, t6, pt, p0, p1, r4, x0, x1, y0, y1, mxV, mnV, hc])
      | (with_reducible refine gateO_boolT (fun hc => ?_) (fun hc => ?_) <;> simp only [wk, wt, wl, ↓reduceIte, Nat.reduceEqDiff, Nat.reduceAdd, Nat.zero_add, not_false_eq_true, not_true_eq_false, t2, t3, t4, t5, t6, pt, p0, p1, r4, x0, x1, y0, y1, mxV, mnV, hc])
      | (with_reducible refine gateO_boolF (fun hc => ?_) (fun hc => ?_) <;> simp only [wk, wt, wl, ↓reduceIte, Nat.reduceEqDiff, Nat.reduceAdd, Nat.zero_add, not_false_eq_true, not_true_eq_false, t2, t3, t4, t5, t6, pt, p0, p1, r4, x0, x1, y0, y1, mxV, mnV, hc]))
          all_goals exact ⟨_, rfl, K3⟩
      · have d2 := decide_eq_false g2
        simp only [wk, wt, wl, ↓reduceIte, Nat.reduceEqDiff, Nat.reduceAdd, Nat.zero_add, not_false_eq_true, not_true_eq_false, t2, t3, t4, t5, t6, pt, x0, x1, xA, y0, y1, yA, d1, d2]
        clear x0 x1 xA y0 y1 yA
        obtain ⟨x0, x1, _⟩ := pos_load Vx
        obtain ⟨y0, y1, _⟩ := pos_load Vy
        simp only [wk, wt, wl, ↓reduceIte, Nat.reduceEqDiff, Nat.reduceAdd, Nat.zero_add, not_false_eq_true, not_true_eq_false, t2, t3, t4, t5, t6, pt, p0, p1, r4, x0, x1, y0, y1, mxV, mnV]
        repeat' (first
      | (with_reducible refine condK_dec (fun hc => ?_) (fun hc => ?_) <;> simp only [wk, wt, wl, ↓reduceIte, Nat.reduceEqDiff, Nat.reduceAdd, Nat.zero_add, not_false_eq_true, not_true_eq_false, t2, t3, t4, t5, t6, pt, p0, p1, r4, x0, x1, y0, y1, mxV, mnV, hc])
      | (with_reducible refine condK_split (fun hc => ?_) (fun hc => ?_) <;> simp only [wk, wt, wl, ↓reduceIte, Nat.reduceEqDiff, Nat.reduceAdd, Nat.zero_add, not_false_eq_true, not_true_eq_false, t2, t3, t4, t5, t6, pt, p0, p1, r4, x0, x1, y0, y1, mxV, mnV, hc])
      | (with_reducible refine gateO_dec (fun hc => ?_) (fun hc => ?_) <;> simp only [wk, wt, wl, ↓reduceIte, Nat.reduceEqDiff, Nat.reduceAdd, Nat.zero_add, not_false_eq_true, not_true_eq_false, t2, t3, t4, t5, t6, pt, p0, p1, r4, x0, x1, y0, y1, mxV, mnV, hc])
      | (with_reducible refine gateO_decF (fun hc => ?_) (fun hc => ?_) <;> simp only [wk, wt, wl, ↓reduceIte, Nat.reduceEqDiff, Nat.reduceAdd, Nat.zero_add, not_false_eq_true, not_true_eq_false, t2, t3, t4, t5, t6, pt, p0, p1, r4, x0, x1, y0, y1, mxV, mnV, hc])
      | (with_reducible refine gateO_boolT (fun hc => ?_) (fun hc => ?_) <;> simp only [wk, wt, wl, ↓reduceIte, Nat.reduceEqDiff, Nat.reduceAdd, Nat.zero_add, not_false_eq_true, not_true_eq_false, t2, t3, t4, t5, t6, pt, p0, p1, r4, x0, x1, y0, y1, mxV, mnV, hc])
      | (with_reducible refine gateO_boolF (fun hc => ?_) (fun hc => ?_) <;> simp only [wk, wt, wl, ↓reduceIte, Nat.reduceEqDiff, Nat.reduceAdd, Nat.zero_add, not_false_eq_true, not_true_eq_false, t2, t3, t4, t5, t6, pt, p0, p1, r4, x0, x1, y0, y1, mxV, mnV, hc]))
        all_goals exact ⟨_, rfl, K3⟩
end Go.Proofs.YtcgajolmjjeibaaDoor.Am
end
section
/- Grids of the document: panes as they are handed over; contracts of inside, one, by walks. -/
set_option linter.unusedSimpArgs false
set_option linter.unusedVariables false
set_option maxHeartbeats 4000000
set_option maxRecDepth 20000
namespace Go.Proofs.YtcgajolmjjeibaaDoor.Am
open Go Go.RowKit Go.Proofs.Tryd
/-- A pane: its numbers, what it shows, where that lies. -/
structure PaR where
  id : Int
  top : Int
  left : Int
  rows : Int
  cols : Int
  lines : List (List Int)
  rs : List Rw
  tab : Int
  pl : Int
  status : List Int
  sl : Bool
  a : Int
  b : Int
  c : Int
  d : Int
  e : Int
  lv : Value
  rv : Value
  sv : Value
def prC (q : PaR) : List Value := [.int .i64 q.id, .int .i64 q.top, .int .i64 q.left, .int .i64 q.rows, .int .i64 q.cols, q.lv, q.rv, .int .i64 q.tab, .int .i64 q.pl, q.sv, .bool q.sl, .int .i64 q.a, .int .i64 q.b, .int .i64 q.c, .int .i64 q.d, .int .i64 q.e]
theorem prC_len : ∀ q, (prC q).length = 16 := fun _ => rfl
def PRV (h : Heap) (q : PaR) : Prop := LT h q.lv q.lines ∧ RR h q.rv q.rs ∧ RdI prog h .i32 q.sv q.status
/-- Panes in a row. -/
def PRS (h : Heap) (v : Value) (qs : List PaR) : Prop := RS prog h 16 prC v qs ∧ ∀ q, q ∈ qs → PRV h q
structure PrOk (q : PaR) : Prop where
  text : ∀ (i : Nat) xs, q.lines[i]? = some xs → TR32 xs
  st : TR32 q.status
  ll : q.lines.length ≤ 1000000000
  rl : q.rs.length ≤ 1000000000
theorem PRV.keeps {h h' : Heap} {q : PaR} (V : PRV h q) (K : Keeps h h') : PRV h' q := ⟨V.1.keeps K, Rd.keeps V.2.1 K, V.2.2.keeps K⟩
theorem LT.chF {h h' : Heap} {f : Nat} {v : Value} {ls : List (List Int)} (T : LT h v ls) (S : SzF h f 3) (C : Ch (FR f h) h h') : LT h' v ls := by
  obtain ⟨vs, h1, h2, h3⟩ := T
  exact ⟨vs, h1, Rd.chF h2 S C (by decide), fun i x xs hx hl => Rd.chF (h3 i x xs hx hl) S C (by decide)⟩
theorem PRV.chF {h h' : Heap} {f : Nat} {q : PaR} (V : PRV h q) (S : SzF h f 3) (C : Ch (FR f h) h h') : PRV h' q := ⟨V.1.chF S C, Rd.chF V.2.1 S C (by decide), Rd.chF V.2.2 S C (by decide)⟩
theorem PRS.keeps {h h' : Heap} {v : Value} {qs : List PaR} (V : PRS h v qs) (K : Keeps h h') : PRS h' v qs := ⟨RS.keeps V.1 K, fun q hq => (V.2 q hq).keeps K⟩
theorem PRS.chF {h h' : Heap} {f : Nat} {v : Value} {qs : List PaR} (V : PRS h v qs) (S : SzF h f 3) (C : Ch (FR f h) h h') : PRS h' v qs := ⟨Rd.chF V.1 S C (by decide), fun q hq => (V.2 q hq).chF S C⟩
theorem PRV.ones {h : Heap} {q : PaR} (V : PRV h q) : one q.lv = true ∧ one q.rv = true ∧ one q.sv = true := by
  obtain ⟨⟨vs, _, l, _⟩, r, s⟩ := V
  exact ⟨Rd.one l, Rd.one r, Rd.one s⟩
def wnC (q : PaR) : List Value := [.int .i64 q.id, .int .i64 q.top, .int .i64 q.left, .int .i64 q.rows, .int .i64 q.cols]
theorem wn_load {h : Heap} {b : Nat} {q : PaR} (V : Var h b (wnC q)) : aload prog h 3 ⟨b, 1, none⟩ = some (.int .i64 q.top) ∧ aload prog h 3 ⟨b, 2, none⟩ = some (.int .i64 q.left) ∧ aload prog h 3 ⟨b, 3, none⟩ = some (.int .i64 q.rows) ∧ aload prog h 3 ⟨b, 4, none⟩ = some (.int .i64 q.cols) :=
  ⟨V.load1 (P := prog) (t := 3) underlying3 rfl (i := 1), V.load1 (P := prog) (t := 3) underlying3 rfl (i := 2), V.load1 (P := prog) (t := 3) underlying3 rfl (i := 3), V.load1 (P := prog) (t := 3) underlying3 rfl (i := 4)⟩
theorem pr_load {h : Heap} {pb : Nat} {q : PaR} (V : Var h pb (prC q)) : aload prog h 47 ⟨pb, 0, none⟩ = some (.agg (wnC q).toArray) ∧ aload prog h 35 ⟨pb, 5, none⟩ = some q.lv ∧ aload prog h 51 ⟨pb, 6, none⟩ = some q.rv ∧ aload prog h 3 ⟨pb, 7, none⟩ = some (.int .i64 q.tab) ∧ aload prog h 3 ⟨pb, 8, none⟩ = some (.int .i64 q.pl) ∧ aload prog h 23 ⟨pb, 9, none⟩ = some q.sv ∧ aload prog h 4 ⟨pb, 10, none⟩ = some (.bool q.sl) ∧
    aload prog h 55 ⟨pb, 11, none⟩ = some (.agg #[.int .i64 q.a, .int .i64 q.b, .int .i64 q.c, .int .i64 q.d, .int .i64 q.e]) :=
  ⟨V.loadP (P := prog) (t := 47) underlying47 rfl asz47 (by simp [prC]), V.load1 (P := prog) (t := 35) underlying35 rfl (i := 5), V.load1 (P := prog) (t := 51) underlying51 rfl (i := 6), V.load1 (P := prog) (t := 3) underlying3 rfl (i := 7),
    V.load1 (P := prog) (t := 3) underlying3 rfl (i := 8), V.load1 (P := prog) (t := 23) underlying23 rfl (i := 9), V.load1 (P := prog) (t := 4) underlying4 rfl (i := 10), V.loadP (P := prog) (t := 55) underlying55 rfl asz55 (by simp [prC])⟩
theorem RS.aggP {P : Program} {h : Heap} {s : Nat} {α : Type} {c : α → List Value} {v : Value} {l : List α} (R : RS P h s c v l) (hc : ∀ x, (c x).length = s) {t : TypeId} {d : TypeDesc} {j s' : Nat} (ht : P.underlying t = some d) (hd : isAggD d = true) (hs : asz P t = some s') (hj : j + s' ≤ s) {i : Nat} {x : α} (hx : l[i]? = some x) :
    aload P h t ⟨(eltA v s i).block, (eltA v s i).off + j, none⟩ = some (.agg (((c x).drop j).take s').toArray) := by
  have hi := (List.getElem?_eq_some_iff.1 hx).1
  obtain ⟨h1, h2⟩ := R
  have hch := fm_chunk hc hx
  have hle : (i + 1) * s ≤ l.length * s := Nat.mul_le_mul_right s hi
  rw [Nat.add_mul] at hle
  rcases h2 with ⟨e, _⟩ | ⟨b, o, cp, k, rfl, hlt, hk, hlv, ha, hol, hcc⟩
  · omega
  · have hle2 : o + i * s + j + s' ≤ k.cells.length := by omega
    have hdd : ((k.cells.drop (o + i * s + j)).take s') = ((c x).drop j).take s' := by
      rw [← hch, ← hcc]
      refine List.ext_getElem? fun j' => ?_
      simp only [List.getElem?_take, List.getElem?_drop]
      split
      · rw [if_pos (by omega), if_pos (by omega)]; congr 1; omega
      · rfl
    simp only [aload, eltA, hk, hlv, if_true, ht, hd, hs, hle2, hdd]
/-- A pane of a row, as it is read. -/
theorem PRS.at {h : Heap} {v : Value} {qs : List PaR} (V : PRS h v qs) {i : Nat} {q : PaR} (hi : qs[i]? = some q) : aindexAddr prog 22 v (.int .i64 (i : Int)) = some (.pointer (some (eltA v 16 i))) ∧ aload prog h 66 (eltA v 16 i) = some (.agg (prC q).toArray) ∧
    aload prog h 47 ⟨(eltA v 16 i).block, (eltA v 16 i).off + 0, none⟩ = some (.agg (wnC q).toArray) ∧ aload prog h 3 ⟨(eltA v 16 i).block, (eltA v 16 i).off + 3, none⟩ = some (.int .i64 q.rows) ∧ aload prog h 51 ⟨(eltA v 16 i).block, (eltA v 16 i).off + 6, none⟩ = some q.rv ∧ aload prog h 23 ⟨(eltA v 16 i).block, (eltA v 16 i).off + 9, none⟩ = some q.sv := by
  have hlt := (List.getElem?_eq_some_iff.1 hi).1
  have I := Rd.index V.1 underlying22 asz66 (q := .i64) (i := (i : Int)) (by omega) (by omega)
  rw [Int.toNat_natCast] at I
  exact ⟨I, V.1.agg prC_len underlying66 rfl asz66 hi, V.1.aggP prC_len underlying47 rfl asz47 (by decide) hi, V.1.fld prC_len underlying3 rfl hi (by decide), V.1.fld prC_len underlying51 rfl hi (by decide), V.1.fld prC_len underlying23 rfl hi (by decide)⟩
theorem boxV_pane {h : Heap} {q : PaR} (o : one q.lv = true ∧ one q.rv = true ∧ one q.sv = true) : boxV prog h 66 (.agg (prC q).toArray) = some (.pointer (some ⟨h.size, 0, none⟩), h.new 66 (prC q)) := by
  simp [boxV, asz66, Value.cells, prC, one_int, one_bool, o.1, o.2.1, o.2.2]
theorem newWin {h : Heap} {tm : Tm} : aeff prog tm h (.alloc 47) = some (.pointer (some ⟨h.size, 0, none⟩), h.new 47 [.int .i64 0, .int .i64 0, .int .i64 0, .int .i64 0, .int .i64 0]) := by
  have := alloc_eq (tm := tm) (h := h) azero47 asz47 (by simp [Value.cells, one]); simpa [Value.cells] using this
theorem newRow {h : Heap} {tm : Tm} : aeff prog tm h (.alloc 50) = some (.pointer (some ⟨h.size, 0, none⟩), h.new 50 [.int .i64 0, .int .i64 0, .int .i64 0, .bool false]) := by
  have := alloc_eq (tm := tm) (h := h) azero50 asz50 (by simp [Value.cells, one]); simpa [Value.cells] using this
/-- A window kept in a variable. -/
theorem win_var {h : Heap} (H : Wf h) {q : PaR} : ∃ h', storeV prog (h.new 47 [.int .i64 0, .int .i64 0, .int .i64 0, .int .i64 0, .int .i64 0]) 47 (.pointer (some ⟨h.size, 0, none⟩)) (.agg (wnC q).toArray) = some (undef, h') ∧ Var h' h.size (wnC q) ∧ Keeps h h' ∧ h'.size = h.size + 1 := by
  have N := Keeps.new H 47 [.int .i64 0, .int .i64 0, .int .i64 0, .int .i64 0, .int .i64 0]
  obtain ⟨h', e, V, C, z⟩ := (Var.new (e := 47) H (cs := [.int .i64 0, .int .i64 0, .int .i64 0, .int .i64 0, .int .i64 0])).store (P := prog) (t := 47) (v := .agg (wnC q).toArray) (i := 0) (Ch.wf N) asz47 (by simp [Value.cells, wnC]) (by simp [Value.cells, wnC, one_int])
  refine ⟨h', e, ?_, N.step C fun b e => by omega, z⟩
  have : over [.int .i64 0, .int .i64 0, .int .i64 0, .int .i64 0, .int .i64 0] 0 (Value.agg (wnC q).toArray).cells.toList = wnC q := by
    rw [over_all (by simp [Value.cells, wnC])]; simp [Value.cells]
  rw [this] at V; exact V
theorem inside_ok {h : Heap} {v : Value} {qs : List PaR} {y x : Int} (V : PRS h v qs) (hl : qs.length ≤ 1000000) : ACalls prog 21 #[v, .int .i64 y, .int .i64 x] h (fun r h' => ∃ b : Bool, r = .bool b ∧ Keeps h h') := by
  refine acalls_of_W' func21 rfl (by kernel_rfl) (by kernel_rfl) (by simp [ntmps21]) ?_
  intro H
  simp only [wk, wt, wl, ↓reduceIte, Nat.reduceEqDiff, Nat.reduceAdd, Nat.zero_add, not_false_eq_true, not_true_eq_false]
  refine W_loop (fun tm hh => tm 0 = v ∧ tm 1 = .int .i64 y ∧ tm 2 = .int .i64 x ∧ Keeps h hh ∧ ∃ i : Nat, tm 7 = .int .i64 (i : Int) ∧ i ≤ qs.length) (fun tm _ => (qs.length - intOf (tm 7)).toNat) ⟨(by first | rfl | (simp only [wk, wt, wl, ↓reduceIte, Nat.reduceEqDiff, Nat.reduceAdd, Nat.zero_add, not_false_eq_true, not_true_eq_false]; done) | (simp only [wk, wt, wl, ↓reduceIte, Nat.reduceEqDiff, Nat.reduceAdd, Nat.zero_add, not_false_eq_true, not_true_eq_false]; rfl)), (by first | rfl | (simp only [wk, wt, wl, ↓reduceIte, Nat.reduceEqDiff, Nat.reduceAdd, Nat.zero_add, not_false_eq_true, not_true_eq_false]; done) | (simp only [wk, wt, wl, ↓reduceIte, Nat.reduceEqDiff, Nat.reduceAdd, Nat.zero_add, not_false_eq_true, not_true_eq_false]; rfl)), (by first | rfl | (simp only [wk, wt, wl, ↓reduceIte, Nat.reduceEqDiff, Nat.reduceAdd, Nat.zero_add, not_false_eq_true, not_true_eq_false]; done) | (simp only [wk, wt, wl, ↓reduceIte, Nat.reduceEqDiff, Nat.reduceAdd, Nat.zero_add, not_false_eq_true, not_true_eq_false]; rfl)), Keeps.refl H, 0, (by first | rfl | (simp only [wk, wt, wl, ↓reduceIte, Nat.reduceEqDiff, Nat.reduceAdd, Nat.zero_add, not_false_eq_true, not_true_eq_false]; done) | (simp only [wk, wt, wl, ↓reduceIte, Nat.reduceEqDiff, Nat.reduceAdd, Nat.zero_add, not_false_eq_true, not_true_eq_false]; rfl)), by omega⟩ ?_
  rintro tm hh ⟨t0, t1, t2, K, i, t7, hi⟩
  have V1 := V.keeps K
  have LV := V1.1.len underlying22
  simp only [wk, wt, wl, ↓reduceIte, Nat.reduceEqDiff, Nat.reduceAdd, Nat.zero_add, not_false_eq_true, not_true_eq_false, t0, t1, t2, t7, LV]
  refine condK_dec (fun hd => ?_) (fun hd => ?_)
  · obtain ⟨q, hq⟩ : ∃ q, qs[i]? = some q := ⟨_, List.getElem?_eq_getElem (by omega)⟩
    obtain ⟨IX, _, LW, _⟩ := V1.at hq
    have wi : IntKind.i64.wrap ((i : Int) + 1) = ((i + 1 : Nat) : Int) := by rw [IntWalk.i64_in _ (by omega)]; omega
    obtain ⟨h3, e3, W3, K3, z3⟩ := win_var (q := q) (Ch.wf K)
    obtain ⟨w1, w2, w3, w4⟩ := wn_load W3
    have K4 := K.trans K3
    simp only [wk, wt, wl, ↓reduceIte, Nat.reduceEqDiff, Nat.reduceAdd, Nat.zero_add, not_false_eq_true, not_true_eq_false, t0, t1, t2, t7, IX, LW, newWin, e3, w1, w2, w3, w4]
    repeat' (first
      | (with_reducible refine condK_dec (fun hc => ?_) (fun hc => ?_) <;> simp only [wk, wt, wl, ↓reduceIte, Nat.reduceEqDiff, Nat.reduceAdd, Nat.zero_add, not_false_eq_true, not_true_eq_false, t0, t1, t2, t7, w1, w2, w3, w4, wi, intOf_int, hc])
      | (with_reducible refine condK_split (fun hc => ?_) (fun hc => ?_) <;> simp only [wk, wt, wl, ↓reduceIte, Nat.reduceEqDiff, Nat.reduceAdd, Nat.zero_add, not_false_eq_true, not_true_eq_false, t0, t1, t2, t7, w1, w2, w3, w4, wi, intOf_int, hc])
      | (with_reducible refine gateO_dec (fun hc => ?_) (fun hc => ?_) <;> simp only [wk, wt, wl, ↓reduceIte, Nat.reduceEqDiff, Nat.reduceAdd, Nat.zero_add, not_false_eq_true, not_true_eq_false, t0, t1, t2, t7, w1, w2, w3, w4, wi, intOf_int, hc])
      | (with_reducible refine gateO_decF (fun hc => ?_) (fun hc => ?_) <;> simp only [wk, wt, wl, ↓reduceIte, Nat.reduceEqDiff, Nat.reduceAdd, Nat.zero_add, not_false_eq_true, not_true_eq_false, t0, t1, t2, t7, w1, w2, w3, w4, wi, intOf_int, hc])
      | (with_reducible refine gateO_boolT (fun hc => ?_) (fun hc => ?_) <;> simp only [wk, wt, wl, ↓reduceIte, Nat.reduceEqDiff, Nat.reduceAdd, Nat.zero_add, not_false_eq_true, not_true_eq_false, t0, t1, t2, t7, w1, w2, w3, w4, wi, intOf_int, hc])
      | (with_reducible refine gateO_boolF (fun hc => ?_) (fun hc => ?_) <;> simp only [wk, wt, wl, ↓reduceIte, Nat.reduceEqDiff, Nat.reduceAdd, Nat.zero_add, not_false_eq_true, not_true_eq_false, t0, t1, t2, t7, w1, w2, w3, w4, wi, intOf_int, hc]))
    all_goals first | exact ⟨_, rfl, K4⟩ | exact ⟨⟨K4, i + 1, rfl, by omega⟩, by omega⟩
  · simp only [wk, wt, wl, ↓reduceIte, Nat.reduceEqDiff, Nat.reduceAdd, Nat.zero_add, not_false_eq_true, not_true_eq_false]
    exact ⟨_, rfl, K⟩
end Go.Proofs.YtcgajolmjjeibaaDoor.Am
end
section
/- Grids of the document: the contract of one, by a walk. -/
set_option linter.unusedSimpArgs false
set_option linter.unusedVariables false
set_option maxHeartbeats 4000000
set_option maxRecDepth 20000
namespace Go.Proofs.YtcgajolmjjeibaaDoor.Am
open Go Go.RowKit Go.Proofs.Tryd
abbrev z5 : List Value := [.int .i64 0, .int .i64 0, .int .i64 0, .int .i64 0, .int .i64 0]
abbrev z4 : List Value := [.int .i64 0, .int .i64 0, .int .i64 0, .bool false]
theorem build_p {x y : Int} : abuild prog 53 #[(0, .int .i64 x), (1, .int .i64 y)] = some (.agg #[.int .i64 x, .int .i64 y]) := by simp [abuild, wt, aplaces, Instr.fill, Value.cells]
theorem one_ok {h : Heap} {gb kb f : Nat} {R C : Int} {l : List Cel} {q : PaR} {i : Nat} (S : GS h gb kb f R C l) (T : TxLe 20000 l) (V : PRV h q) (O : PrOk q) (hi : i < q.rs.length) :
    ACalls prog 22 #[pt gb, .agg (prC q).toArray, .int .i64 (i : Int)] h (fun v h' => ∃ l', GS h' gb kb f R C l' ∧ l'.length = l.length ∧ TxLe 20000 l' ∧ Ch (FR f h) h h') := by
  refine acalls_of_W' func22 rfl (by kernel_rfl) (by kernel_rfl) (by simp [ntmps22]) ?_
  intro H
  obtain ⟨r, hr⟩ : ∃ r, q.rs[i]? = some r := ⟨_, List.getElem?_eq_getElem hi⟩
  have N1 := Keeps.new H 66 (prC q)
  have V1 := Var.new (e := 66) H (cs := prC q)
  have P1 := V.keeps N1
  have S1 := S.keeps H N1
  have hfl := S.G.sz.1
  simp only [wk, wt, wl, ↓reduceIte, Nat.reduceEqDiff, Nat.reduceAdd, Nat.zero_add, not_false_eq_true, not_true_eq_false, aeff_box, boxV_pane V.ones, newSz, pt]
  have z1 : (h.new 66 (prC q)).size = h.size + 1 := rfl
  generalize h.new 66 (prC q) = h2 at *
  have H2 := Ch.wf N1
  refine adraw_inv (fun L tm hh => (tm 0 = pt gb ∧ tm 2 = .int .i64 (i : Int) ∧ tm 4 = pt h.size ∧ Keeps h2 hh) ∧ (L 0 = true → tm 16 = .pointer (some ⟨h.size, 0, none⟩)) ∧ (L 1 = true → tm 17 = .agg (wnC q).toArray) ∧ (L 2 = true → tm 18 = .pointer (some ⟨h.size, 6, none⟩)) ∧ (L 3 = true → tm 19 = q.rv) ∧ (L 4 = true → tm 20 = .int .i64 (i : Int)) ∧ (L 5 = true → tm 21 = .pointer (some (eltA q.rv 4 i))) ∧ (L 6 = true → tm 22 = .agg #[.int .i64 r.ln, .int .i64 r.fr, .int .i64 r.to, .bool r.fo]) ∧
    (L 7 = true → ∃ x, tm 6 = pt x ∧ h2.size ≤ x ∧ Var hh x (if L 9 = true then wnC q else z5)) ∧ (L 8 = true → ∃ x, tm 7 = pt x ∧ h2.size ≤ x ∧ Var hh x (if L 10 = true then cR r else z4)) ∧ (L 7 = true → L 8 = true → tm 6 ≠ tm 7) ∧ (L 9 = true → L 7 = true) ∧ (L 10 = true → L 8 = true)) mixed (by kernel_rfl) (by kernel_rfl) ?_ ?_ ?_
  · refine ⟨⟨(by first | rfl | (simp only [wk, wt, wl, ↓reduceIte, Nat.reduceEqDiff, Nat.reduceAdd, Nat.zero_add, not_false_eq_true, not_true_eq_false]; done) | (simp only [wk, wt, wl, ↓reduceIte, Nat.reduceEqDiff, Nat.reduceAdd, Nat.zero_add, not_false_eq_true, not_true_eq_false]; rfl)), (by first | rfl | (simp only [wk, wt, wl, ↓reduceIte, Nat.reduceEqDiff, Nat.reduceAdd, Nat.zero_add, not_false_eq_true, not_true_eq_false]; done) | (simp only [wk, wt, wl, ↓reduceIte, Nat.reduceEqDiff, Nat.reduceAdd, Nat.zero_add, not_false_eq_true, not_true_eq_false]; rfl)), (by first | rfl | (simp only [wk, wt, wl, ↓reduceIte, Nat.reduceEqDiff, Nat.reduceAdd, Nat.zero_add, not_false_eq_true, not_true_eq_false]; done) | (simp only [wk, wt, wl, ↓reduceIte, Nat.reduceEqDiff, Nat.reduceAdd, Nat.zero_add, not_false_eq_true, not_true_eq_false]; rfl)), Keeps.refl H2⟩, ?_, ?_, ?_, ?_, ?_, ?_, ?_, ?_, ?_, ?_, ?_, ?_⟩ <;> exact fun e => by cases e
  · intro j o ho L tm hh hI hl hp
    obtain ⟨⟨t0, t2, t4, K⟩, i0, i1, i2, i3, i4, i5, i6, i7, i8, i78, i97, iA8⟩ := hI
    have VP := Keeps.var H2 K V1
    obtain ⟨p0, p5, p6, p7, p8, p9, p10, p11⟩ := pr_load VP
    have RRv : RR hh q.rv q.rs := Rd.keeps P1.2.1 K
    have IXr := Rd.index RRv underlying51 asz50 (q := .i64) (i := (i : Int)) (by omega) (by omega)
    rw [Int.toNat_natCast] at IXr
    obtain ⟨_, _, _, _, rl⟩ := RR.flds RRv hr
    rcases j with _ | _ | _ | _ | _ | _ | _ | _ | _ | _ | _ | j
    all_goals simp only [List.getElem?_toArray, List.getElem?_cons_zero, List.getElem?_cons_succ, List.getElem?_nil, Option.some.injEq, reduceCtorEq] at ho
    all_goals subst ho
    all_goals simp [Region.binds] at hp
    · simp only [wk, wt, wl, ↓reduceIte, Nat.reduceEqDiff, Nat.reduceAdd, Nat.zero_add, not_false_eq_true, not_true_eq_false, we, t0, t2, t4, pt]
      exact ⟨K, fun _ => trivial, i1, i2, i3, i4, i5, i6, i7, i8, i78, i97, iA8⟩
    · simp only [wk, wt, wl, ↓reduceIte, Nat.reduceEqDiff, Nat.reduceAdd, Nat.zero_add, not_false_eq_true, not_true_eq_false, we, t0, t2, t4, pt, i0 hp, p0]
      exact ⟨K, fun _ => trivial, fun _ => trivial, i2, i3, i4, i5, i6, i7, i8, i78, i97, iA8⟩
    · simp only [wk, wt, wl, ↓reduceIte, Nat.reduceEqDiff, Nat.reduceAdd, Nat.zero_add, not_false_eq_true, not_true_eq_false, we, t0, t2, t4, pt]
      exact ⟨K, i0, i1, fun _ => trivial, i3, i4, i5, i6, i7, i8, i78, i97, iA8⟩
    · simp only [wk, wt, wl, ↓reduceIte, Nat.reduceEqDiff, Nat.reduceAdd, Nat.zero_add, not_false_eq_true, not_true_eq_false, we, t0, t2, t4, pt, i2 hp, p6]
      exact ⟨K, i0, i1, fun _ => trivial, fun _ => trivial, i4, i5, i6, i7, i8, i78, i97, iA8⟩
    · simp only [wk, wt, wl, ↓reduceIte, Nat.reduceEqDiff, Nat.reduceAdd, Nat.zero_add, not_false_eq_true, not_true_eq_false, we, t0, t2, t4, pt]
      exact ⟨K, i0, i1, i2, i3, fun _ => trivial, i5, i6, i7, i8, i78, i97, iA8⟩
    · simp only [wk, wt, wl, ↓reduceIte, Nat.reduceEqDiff, Nat.reduceAdd, Nat.zero_add, not_false_eq_true, not_true_eq_false, we, t0, t2, t4, pt, i3 hp.1, i4 hp.2, IXr]
      exact ⟨K, i0, i1, i2, fun _ => trivial, fun _ => trivial, fun _ => trivial, i6, i7, i8, i78, i97, iA8⟩
    · simp only [wk, wt, wl, ↓reduceIte, Nat.reduceEqDiff, Nat.reduceAdd, Nat.zero_add, not_false_eq_true, not_true_eq_false, we, t0, t2, t4, pt, i5 hp, rl]
      exact ⟨K, i0, i1, i2, i3, i4, fun _ => trivial, fun _ => trivial, i7, i8, i78, i97, iA8⟩
    · have h6 : L 9 = false := by cases e : L 9 with
        | false => rfl
        | true => rw [i97 e] at hl; cases hl
      have N := Keeps.new (Ch.wf K) 47 z5
      have V := Var.new (e := 47) (Ch.wf K) (cs := z5)
      simp only [wk, wt, wl, ↓reduceIte, Nat.reduceEqDiff, Nat.reduceAdd, Nat.zero_add, not_false_eq_true, not_true_eq_false, we, t0, t2, t4, pt, newWin]
      refine ⟨K.trans N, i0, i1, i2, i3, i4, i5, i6, fun _ => ⟨hh.size, rfl, Ch.le K, ?_⟩, fun e => ?_, fun _ e => ?_, fun _ => rfl, iA8⟩
      · rw [if_neg (by show ¬ L 9 = true; rw [h6]; decide)]; exact V
      · obtain ⟨x, e1, e2, e3⟩ := i8 e
        exact ⟨x, e1, e2, Keeps.var (Ch.wf K) N e3⟩
      · obtain ⟨x, e1, e2, e3⟩ := i8 e
        have := e3.lt (Ch.wf K)
        rw [e1]; intro c; cases c; omega
    · have h7 : L 10 = false := by cases e : L 10 with
        | false => rfl
        | true => rw [iA8 e] at hl; cases hl
      have N := Keeps.new (Ch.wf K) 50 z4
      have V := Var.new (e := 50) (Ch.wf K) (cs := z4)
      simp only [wk, wt, wl, ↓reduceIte, Nat.reduceEqDiff, Nat.reduceAdd, Nat.zero_add, not_false_eq_true, not_true_eq_false, we, t0, t2, t4, pt, newRow]
      refine ⟨K.trans N, i0, i1, i2, i3, i4, i5, i6, fun e => ?_, fun _ => ⟨hh.size, rfl, Ch.le K, ?_⟩, fun e _ => ?_, i97, fun _ => rfl⟩
      · obtain ⟨x, e1, e2, e3⟩ := i7 e
        exact ⟨x, e1, e2, Keeps.var (Ch.wf K) N e3⟩
      · rw [if_neg (by show ¬ L 10 = true; rw [h7]; decide)]; exact V
      · obtain ⟨x, e1, e2, e3⟩ := i7 e
        have := e3.lt (Ch.wf K)
        rw [e1]; intro c; cases c; omega
    · obtain ⟨x, e1, e2, e3⟩ := i7 (by simp [hp])
      obtain ⟨y, f1, f2, f3⟩ := i8 (by simp [hp])
      rw [if_neg (by rw [hl]; decide)] at e3
      have hxy : x ≠ y := fun e => i78 (by simp [hp]) (by simp [hp]) (by rw [e1, f1, e])
      obtain ⟨h3, s3, V3, C3, z3⟩ := e3.store (P := prog) (t := 47) (v := .agg (wnC q).toArray) (i := 0) (Ch.wf K) asz47 (by simp [Value.cells, wnC]) (by simp [Value.cells, wnC, one_int])
      have ov : over z5 0 (Value.agg (wnC q).toArray).cells.toList = wnC q := by rw [over_all (by simp [Value.cells, wnC])]; simp [Value.cells]
      rw [ov] at V3
      have x1 := i1 (by simp [hp])
      simp only [pt] at e1
      simp only [wk, wt, wl, ↓reduceIte, Nat.reduceEqDiff, Nat.reduceAdd, Nat.zero_add, not_false_eq_true, not_true_eq_false, we, t0, t2, t4, e1, x1, s3, pt]
      refine ⟨K.step C3 fun b e => by omega, i0, fun _ => trivial, i2, i3, i4, i5, i6, fun _ => ⟨x, rfl, e2, ?_⟩, fun e => ⟨y, f1, f2, ?_⟩, fun _ _ => ?_, fun _ => by simp [hp], iA8⟩
      · rw [if_pos (by rfl)]; exact V3
      · exact Ch.var (Ch.wf K) C3 f3 (fun e => hxy e.symm)
      · rw [f1]; intro c; cases c; exact hxy rfl
    · obtain ⟨x, e1, e2, e3⟩ := i7 (by simp [hp])
      obtain ⟨y, f1, f2, f3⟩ := i8 (by simp [hp])
      rw [if_neg (by rw [hl]; decide)] at f3
      have hxy : x ≠ y := fun e => i78 (by simp [hp]) (by simp [hp]) (by rw [e1, f1, e])
      obtain ⟨h3, s3, V3, C3, z3⟩ := f3.store (P := prog) (t := 50) (v := .agg #[.int .i64 r.ln, .int .i64 r.fr, .int .i64 r.to, .bool r.fo]) (i := 0) (Ch.wf K) asz50 (by simp [Value.cells]) (by simp [Value.cells, one_int, one_bool])
      have ov : over z4 0 (Value.agg #[.int .i64 r.ln, .int .i64 r.fr, .int .i64 r.to, .bool r.fo]).cells.toList = cR r := by rw [over_all (by simp [Value.cells])]; simp [Value.cells, cR]
      rw [ov] at V3
      have x1 := i6 (by simp [hp])
      simp only [pt] at f1
      simp only [wk, wt, wl, ↓reduceIte, Nat.reduceEqDiff, Nat.reduceAdd, Nat.zero_add, not_false_eq_true, not_true_eq_false, we, t0, t2, t4, f1, x1, s3, pt]
      refine ⟨K.step C3 fun b e => by omega, i0, i1, i2, i3, i4, i5, fun _ => trivial, fun e => ⟨x, e1, e2, ?_⟩, fun _ => ⟨y, rfl, f2, ?_⟩, fun _ _ => ?_, i97, fun _ => by simp [hp]⟩
      · exact Ch.var (Ch.wf K) C3 e3 hxy
      · rw [if_pos (by rfl)]; exact V3
      · rw [e1]; intro c; cases c; exact hxy rfl
  intro L tm hh hI hall
  obtain ⟨⟨t0, t2, t4, K⟩, i0, i1, i2, i3, i4, i5, i6, i7, i8, i78, i97, iA8⟩ := hI
  have qq : ∀ i, i < 11 → L i = true := fun i hi => hall i (by simpa using hi)
  obtain ⟨x, t6, hx, Vx⟩ := i7 (qq 7 (by decide))
  obtain ⟨y, t7, hy, Vy⟩ := i8 (qq 8 (by decide))
  rw [if_pos (qq 9 (by decide))] at Vx
  rw [if_pos (qq 10 (by decide))] at Vy
  have hxy : x ≠ y := fun e => i78 (qq 7 (by decide)) (qq 8 (by decide)) (by rw [t6, t7, e])
  clear i0 i1 i2 i3 i4 i5 i6 i7 i8 i78 i97 iA8 hall qq
  have VP := Keeps.var H2 K V1
  have K0 := N1.trans K
  have S2 := S1.keeps H2 K
  have P2 := P1.keeps K
  obtain ⟨p0, p5, p6, p7, p8, p9, p10, p11⟩ := pr_load VP
  obtain ⟨w1, w2, w3, w4⟩ := wn_load Vx
  obtain ⟨r0, r1, r2, r3⟩ := cR_load Vy
  have LL := P2.1.len
  refine adraw_order [(0, false), (1, false), (2, false), (3, false), (4, false), (5, false), (6, false), (7, false), (8, false), (9, false), (10, false)] mixed (by kernel_rfl) (by kernel_rfl) (by kernel_rfl) (by with_reducible repeat (first | exact PF_retK | refine PF_thenK ?_ | refine PF_blockK ?_)) ?_
  simp only [wk, wt, wl, ↓reduceIte, Nat.reduceEqDiff, Nat.reduceAdd, Nat.zero_add, not_false_eq_true, not_true_eq_false, dK_t, t0, t2, t4, t6, t7, pt, w1, w2, w4]
  have hbad : (r.ln < 0 ∨ (q.lines.length : Int) ≤ r.ln) ∨ (¬ r.ln < 0 ∧ ¬ (q.lines.length : Int) ≤ r.ln) := by omega
  rcases hbad with hb | ⟨g1, g2⟩
  · rcases hb with g1 | g2
    · have d1 := decide_eq_true g1
      have N := Keeps.new (Ch.wf K) 21 [.int .i32 126]
      have X : RdI prog (hh.new 21 [.int .i32 126]) .i32 (.slice (some ⟨hh.size, 0, none⟩) 1 2) [126] := Rd.new (Ch.wf K) asz21 rfl
      simp only [wk, wt, wl, ↓reduceIte, Nat.reduceEqDiff, Nat.reduceAdd, Nat.zero_add, not_false_eq_true, not_true_eq_false, t0, t2, t4, t6, t7, pt, w1, w2, w4, r0, p5, LL, d1, bsr1]
      refine (typed_ok (S2.keeps (Ch.wf K) N) X (m := 20000) (by simp) (by omega) T).use ?_
      rintro _ h4 ⟨w, l4, rfl, S4, hl4, T4, C4⟩
      simp only [wk, wt, wl, ↓reduceIte, Nat.reduceEqDiff, Nat.reduceAdd, Nat.zero_add, not_false_eq_true, not_true_eq_false]
      exact ⟨l4, S4, hl4, T4, (K0.trans N).rg.thenR C4⟩
    · have g1 : ¬ r.ln < 0 := by omega
      have d1 := decide_eq_false g1
      have d2 := decide_eq_true g2
      have N := Keeps.new (Ch.wf K) 21 [.int .i32 126]
      have X : RdI prog (hh.new 21 [.int .i32 126]) .i32 (.slice (some ⟨hh.size, 0, none⟩) 1 2) [126] := Rd.new (Ch.wf K) asz21 rfl
      simp only [wk, wt, wl, ↓reduceIte, Nat.reduceEqDiff, Nat.reduceAdd, Nat.zero_add, not_false_eq_true, not_true_eq_false, t0, t2, t4, t6, t7, pt, w1, w2, w4, r0, p5, LL, d1, d2, bsr1]
      refine (typed_ok (S2.keeps (Ch.wf K) N) X (m := 20000) (by simp) (by omega) T).use ?_
      rintro _ h4 ⟨w, l4, rfl, S4, hl4, T4, C4⟩
      simp only [wk, wt, wl, ↓reduceIte, Nat.reduceEqDiff, Nat.reduceAdd, Nat.zero_add, not_false_eq_true, not_true_eq_false]
      exact ⟨l4, S4, hl4, T4, (K0.trans N).rg.thenR C4⟩
  have d1 := decide_eq_false g1
  have d2 := decide_eq_false g2
  obtain ⟨n, hn⟩ : ∃ n : Nat, r.ln = (n : Int) := ⟨r.ln.toNat, by omega⟩
  have hnl : n < q.lines.length := by omega
  obtain ⟨xs, hxs⟩ : ∃ xs, q.lines[n]? = some xs := ⟨_, List.getElem?_eq_getElem hnl⟩
  obtain ⟨xv, lx, X0⟩ := P2.1.at hxs
  have IX := P2.1.index hnl
  have hT32 := O.text n xs hxs
  rw [hn] at r0 d1 d2
  have hfx : f < h2.size := by omega
  cases hfo : r.fo with
  | true =>
    rw [hfo] at r3
    simp only [wk, wt, wl, ↓reduceIte, Nat.reduceEqDiff, Nat.reduceAdd, Nat.zero_add, not_false_eq_true, not_true_eq_false, t0, t2, t4, t6, t7, pt, w1, w2, w4, r0, p5, LL, d1, d2, IX, lx, r3]
    refine adraw_order [(1, false), (2, false), (0, true), (3, true), (4, true), (5, false)] mixed (by kernel_rfl) (by kernel_rfl) (by kernel_rfl) (by with_reducible repeat (first | exact PF_retK | refine PF_thenK ?_ | refine PF_blockK ?_)) ?_
    simp only [wk, wt, wl, ↓reduceIte, Nat.reduceEqDiff, Nat.reduceAdd, Nat.zero_add, not_false_eq_true, not_true_eq_false, dK_t, t7, pt, r2]
    refine (runesD_ok (s := ⟨#[43, 45, 45, 32]⟩) (by decide)).use ?_
    rintro v5 h5 ⟨xs5, O5, hl5, K5⟩
    have hl5' : xs5.length = 4 := hl5
    have r2' : aload prog h5 3 ⟨y, 2, none⟩ = some (.int .i64 r.to) := (cR_load (Keeps.var (Ch.wf K) K5 Vy)).2.2.1
    refine ⟨fun _ => K5.reads (Ch.wf K), ?_⟩
    simp only [wk, wt, wl, ↓reduceIte, Nat.reduceEqDiff, Nat.reduceAdd, Nat.zero_add, not_false_eq_true, not_true_eq_false, dK_t, t7, pt, r2']
    refine decimalD_ok.use ?_
    rintro v6 h6 ⟨xs6, O6, hl6, K6⟩
    obtain ⟨v7, h7, e7, O7, K7, R7⟩ := OI.grow (K5.trans K6) rfl (O5.keeps K6) O6.rd (by omega)
    have P7 := (P2.keeps K7)
    simp only [wk, wt, wl, ↓reduceIte, Nat.reduceEqDiff, Nat.reduceAdd, Nat.zero_add, not_false_eq_true, not_true_eq_false, dK_t, e7]
    refine ⟨K6.reads (Ch.wf K5), R7, ?_⟩
    refine (runesD_ok (s := ⟨#[32, 108, 105, 110, 101, 115, 58, 32]⟩) (by decide)).use ?_
    rintro v8 h8 ⟨xs8, O8, hl8, K8⟩
    have hl8' : xs8.length = 8 := hl8
    obtain ⟨v9, h9, e9, O9, K9, _⟩ := OI.grow (K7.trans K8) rfl (O7.keeps K8) O8.rd (by simp; omega)
    have Vx9 := Keeps.var (Ch.wf K) K9 Vx
    obtain ⟨u1, u2, u3, u4⟩ := wn_load Vx9
    simp only [wk, wt, wl, ↓reduceIte, Nat.reduceEqDiff, Nat.reduceAdd, Nat.zero_add, not_false_eq_true, not_true_eq_false, e9, t0, t6, t7, pt, u2]
    refine (typed_ok (S2.keeps (Ch.wf K) K9) O9.rd (m := 20000) (by simp; omega) (by omega) T).use ?_
    rintro _ h4 ⟨w, l4, rfl, S4, hl4, T4, C4⟩
    have S9 := S2.keeps (Ch.wf K) K9
    have X4 : RdI prog h4 .i32 xv xs := Rd.chF (X0.keeps K9) S9.G.sz C4 (by decide)
    have VP4 := Var.chF (Ch.wf K9) (Keeps.var (Ch.wf K) K9 VP) C4 (by omega)
    have Vx4 := Var.chF (Ch.wf K9) Vx9 C4 (by omega)
    obtain ⟨_, _, _, p7', _⟩ := pr_load VP4
    obtain ⟨_, u2', _, _⟩ := wn_load Vx4
    simp only [wk, wt, wl, ↓reduceIte, Nat.reduceEqDiff, Nat.reduceAdd, Nat.zero_add, not_false_eq_true, not_true_eq_false, t0, t4, t6, t7, pt, u2', p7']
    refine (refRow_ok S4 X4 hT32 T4).use ?_
    rintro _ h5 ⟨l5, S5, hl5, T5, C5⟩
    simp only [wk, wt, wl, ↓reduceIte, Nat.reduceEqDiff, Nat.reduceAdd, Nat.zero_add, not_false_eq_true, not_true_eq_false]
    exact ⟨l5, S5, hl5.trans hl4, T5, ((K0.trans K9).rg.thenR C4).thenR C5⟩
  | false =>
    rw [hfo] at r3
    simp only [wk, wt, wl, ↓reduceIte, Nat.reduceEqDiff, Nat.reduceAdd, Nat.zero_add, not_false_eq_true, not_true_eq_false, t0, t2, t4, t6, t7, pt, w1, w2, w4, r0, p5, LL, d1, d2, IX, lx, r3, p7]
    refine (refUnits_ok X0 hT32.1 hT32.2).use ?_
    rintro uv h5 ⟨us, hus, UR5, K5⟩
    have ul := (unitsL_ok (line := xs) (tab := q.tab)).len
    have hul : us.length = (unitsL xs q.tab).length := by rw [← hus, List.length_map]
    have hx2 := hT32.2
    have H5 := Ch.wf K5
    have VP5 := Keeps.var (Ch.wf K) K5 VP
    have Vx5 := Keeps.var (Ch.wf K) K5 Vx
    have Vy5 := Keeps.var (Ch.wf K) K5 Vy
    have S5 := S2.keeps (Ch.wf K) K5
    simp only [wk, wt, wl, ↓reduceIte, Nat.reduceEqDiff, Nat.reduceAdd, Nat.zero_add, not_false_eq_true, not_true_eq_false]
    refine W_loop (fun tm hh => tm 0 = pt gb ∧ tm 4 = pt h.size ∧ tm 6 = pt x ∧ tm 7 = pt y ∧ (∃ Y, tm 8 = .int .i64 Y) ∧ (∃ Z, tm 9 = .int .i64 Z) ∧ tm 13 = uv ∧ Ch (FR f h5) h5 hh ∧ ∃ (j : Nat) (l' : List Cel), tm 14 = .int .i64 (j : Int) ∧ j ≤ us.length ∧ GS hh gb kb f R C l' ∧ l'.length = l.length ∧ TxLe 20000 l')
      (fun tm _ => (us.length - intOf (tm 14)).toNat) ⟨(by first | rfl | (simp only [wk, wt, wl, ↓reduceIte, Nat.reduceEqDiff, Nat.reduceAdd, Nat.zero_add, not_false_eq_true, not_true_eq_false]; done) | (simp only [wk, wt, wl, ↓reduceIte, Nat.reduceEqDiff, Nat.reduceAdd, Nat.zero_add, not_false_eq_true, not_true_eq_false]; rfl) | (simp only [wk, wt, wl, ↓reduceIte, Nat.reduceEqDiff, Nat.reduceAdd, Nat.zero_add, not_false_eq_true, not_true_eq_false, t0]; done) | (simp only [wk, wt, wl, ↓reduceIte, Nat.reduceEqDiff, Nat.reduceAdd, Nat.zero_add, not_false_eq_true, not_true_eq_false, t0]; rfl)), (by first | rfl | (simp only [wk, wt, wl, ↓reduceIte, Nat.reduceEqDiff, Nat.reduceAdd, Nat.zero_add, not_false_eq_true, not_true_eq_false]; done) | (simp only [wk, wt, wl, ↓reduceIte, Nat.reduceEqDiff, Nat.reduceAdd, Nat.zero_add, not_false_eq_true, not_true_eq_false]; rfl) | (simp only [wk, wt, wl, ↓reduceIte, Nat.reduceEqDiff, Nat.reduceAdd, Nat.zero_add, not_false_eq_true, not_true_eq_false, t4]; done) | (simp only [wk, wt, wl, ↓reduceIte, Nat.reduceEqDiff, Nat.reduceAdd, Nat.zero_add, not_false_eq_true, not_true_eq_false, t4]; rfl)), (by first | rfl | (simp only [wk, wt, wl, ↓reduceIte, Nat.reduceEqDiff, Nat.reduceAdd, Nat.zero_add, not_false_eq_true, not_true_eq_false]; done) | (simp only [wk, wt, wl, ↓reduceIte, Nat.reduceEqDiff, Nat.reduceAdd, Nat.zero_add, not_false_eq_true, not_true_eq_false]; rfl) | (simp only [wk, wt, wl, ↓reduceIte, Nat.reduceEqDiff, Nat.reduceAdd, Nat.zero_add, not_false_eq_true, not_true_eq_false, t6]; done) | (simp only [wk, wt, wl, ↓reduceIte, Nat.reduceEqDiff, Nat.reduceAdd, Nat.zero_add, not_false_eq_true, not_true_eq_false, t6]; rfl)), (by first | rfl | (simp only [wk, wt, wl, ↓reduceIte, Nat.reduceEqDiff, Nat.reduceAdd, Nat.zero_add, not_false_eq_true, not_true_eq_false]; done) | (simp only [wk, wt, wl, ↓reduceIte, Nat.reduceEqDiff, Nat.reduceAdd, Nat.zero_add, not_false_eq_true, not_true_eq_false]; rfl) | (simp only [wk, wt, wl, ↓reduceIte, Nat.reduceEqDiff, Nat.reduceAdd, Nat.zero_add, not_false_eq_true, not_true_eq_false, t7]; done) | (simp only [wk, wt, wl, ↓reduceIte, Nat.reduceEqDiff, Nat.reduceAdd, Nat.zero_add, not_false_eq_true, not_true_eq_false, t7]; rfl)), ⟨_, (by first | rfl | (simp only [wk, wt, wl, ↓reduceIte, Nat.reduceEqDiff, Nat.reduceAdd, Nat.zero_add, not_false_eq_true, not_true_eq_false]; done) | (simp only [wk, wt, wl, ↓reduceIte, Nat.reduceEqDiff, Nat.reduceAdd, Nat.zero_add, not_false_eq_true, not_true_eq_false]; rfl))⟩, ⟨_, (by first | rfl | (simp only [wk, wt, wl, ↓reduceIte, Nat.reduceEqDiff, Nat.reduceAdd, Nat.zero_add, not_false_eq_true, not_true_eq_false]; done) | (simp only [wk, wt, wl, ↓reduceIte, Nat.reduceEqDiff, Nat.reduceAdd, Nat.zero_add, not_false_eq_true, not_true_eq_false]; rfl))⟩, (by first | rfl | (simp only [wk, wt, wl, ↓reduceIte, Nat.reduceEqDiff, Nat.reduceAdd, Nat.zero_add, not_false_eq_true, not_true_eq_false]; done) | (simp only [wk, wt, wl, ↓reduceIte, Nat.reduceEqDiff, Nat.reduceAdd, Nat.zero_add, not_false_eq_true, not_true_eq_false]; rfl)), (Keeps.refl H5).rg, 0, l, (by first | rfl | (simp only [wk, wt, wl, ↓reduceIte, Nat.reduceEqDiff, Nat.reduceAdd, Nat.zero_add, not_false_eq_true, not_true_eq_false]; done) | (simp only [wk, wt, wl, ↓reduceIte, Nat.reduceEqDiff, Nat.reduceAdd, Nat.zero_add, not_false_eq_true, not_true_eq_false]; rfl)), by omega, S5, rfl, T⟩ ?_
    rintro tm h6 ⟨t0, t4, t6, t7, ⟨Y, t8⟩, ⟨Z, t9⟩, t13, C6, j, l7, t14, hj, S7, hll7, T7⟩
    have H6 := Ch.wf C6
    have UR6 : UR h6 uv us := ⟨Rd.chF UR5.rd S5.G.sz C6 (by decide), fun x hx => Rd.chF (UR5.txt x hx) S5.G.sz C6 (by decide)⟩
    have VP6 := Var.chF H5 VP5 C6 (by omega)
    have Vx6 := Var.chF H5 Vx5 C6 (by omega)
    have Vy6 := Var.chF H5 Vy5 C6 (by omega)
    have LU := UR6.rd.len underlying44
    have t1 : True := trivial
    simp only [wk, wt, wl, ↓reduceIte, Nat.reduceEqDiff, Nat.reduceAdd, Nat.zero_add, not_false_eq_true, not_true_eq_false, t0, t4, t6, t7, t8, t9, t13, t14, LU]
    refine condK_dec (fun hd => ?_) (fun hd => ?_)
    · have hju : j < us.length := by omega
      have hxj : us[j]? = some ((us[j]).1, (us[j]).2) := List.getElem?_eq_getElem hju
      obtain ⟨f0, _, f2, _, f4⟩ := UR6.field hxj
      have IU := UR6.rd.index underlying44 asz61 (q := .i64) (i := (j : Int)) (by omega) (by omega)
      rw [Int.toNat_natCast] at IU
      have hmem : (us[j]).1 ∈ unitsL xs q.tab := by rw [← hus]; exact List.mem_map.2 ⟨_, List.getElem_mem hju, rfl⟩
      have hut := unit_tx hmem
      have wi : IntKind.i64.wrap ((j : Int) + 1) = ((j + 1 : Nat) : Int) := by rw [IntWalk.i64_in _ (by omega)]; omega
      obtain ⟨p0, p5, p6, p7, p8, p9, p10, p11⟩ := pr_load VP6
      obtain ⟨w1, w2, w3, w4⟩ := wn_load Vx6
      obtain ⟨r0, r1, r2, r3⟩ := cR_load Vy6
      simp only [wk, wt, wl, ↓reduceIte, Nat.reduceEqDiff, Nat.reduceAdd, Nat.zero_add, not_false_eq_true, not_true_eq_false, t0, t4, t6, t7, t8, t9, t13, t14]
      refine adraw_order [(0, false), (1, false), (2, false), (3, false), (4, false), (5, false), (6, false), (7, false), (8, false), (9, false), (10, false), (11, false), (12, false), (13, false), (14, false), (15, false), (16, false), (17, false)] mixed (by kernel_rfl) (by kernel_rfl) (by kernel_rfl) (by with_reducible repeat (first | exact PF_retK | refine PF_thenK ?_ | refine PF_blockK ?_)) ?_
      by_cases c1 : (us[j]).1.col < r.fr
      · have e1 := decide_eq_true c1
        simp only [wk, wt, wl, ↓reduceIte, Nat.reduceEqDiff, Nat.reduceAdd, Nat.zero_add, not_false_eq_true, not_true_eq_false, dK_t, t0, t4, t6, t7, t8, t9, t13, t14, pt, IU, f2, r1, e1, wi, intOf_int]
        exact ⟨⟨⟨Y, rfl⟩, ⟨Z, rfl⟩, C6, j + 1, l7, rfl, by omega, S7, hll7, T7⟩, by omega⟩
      have e1 := decide_eq_false c1
      by_cases c2 : r.to ≤ (us[j]).1.col
      · have e2 := decide_eq_true c2
        simp only [wk, wt, wl, ↓reduceIte, Nat.reduceEqDiff, Nat.reduceAdd, Nat.zero_add, not_false_eq_true, not_true_eq_false, dK_t, t0, t4, t6, t7, t8, t9, t13, t14, pt, IU, f2, r1, r2, e1, e2, wi, intOf_int]
        exact ⟨⟨⟨Y, rfl⟩, ⟨Z, rfl⟩, C6, j + 1, l7, rfl, by omega, S7, hll7, T7⟩, by omega⟩
      have e2 := decide_eq_false c2
      simp only [wk, wt, wl, ↓reduceIte, Nat.reduceEqDiff, Nat.reduceAdd, Nat.zero_add, not_false_eq_true, not_true_eq_false, dK_t, t0, t4, t6, t7, t8, t9, t13, t14, pt, IU, f2, r1, r2, e1, e2]
      refine adraw_order [(0, false), (1, false), (2, false), (3, false), (4, false), (5, false), (6, false), (7, false), (8, false), (9, false), (10, false), (11, false), (12, false), (13, true), (14, false)] mixed (by kernel_rfl) (by kernel_rfl) (by kernel_rfl) (by with_reducible repeat (first | exact PF_retK | refine PF_thenK ?_ | refine PF_blockK ?_)) ?_
      cases hsl : q.sl with
      | false =>
        rw [hsl] at p10
        simp only [wk, wt, wl, ↓reduceIte, Nat.reduceEqDiff, Nat.reduceAdd, Nat.zero_add, not_false_eq_true, not_true_eq_false, dK_t, t0, t4, t6, t7, t8, t9, t13, t14, pt, p10]
        refine ⟨Reads.refl _, ?_⟩
        try simp only [wk, wt, wl, ↓reduceIte, Nat.reduceEqDiff, Nat.reduceAdd, Nat.zero_add, not_false_eq_true, not_true_eq_false, t1, t0, t1, t4, t6, t7, t8, t9, t13, t14, pt]
        refine adraw_last 25 mixed (by kernel_rfl) (by kernel_rfl) (by kernel_rfl) ?_
        simp only [wk, wt, wl, ↓reduceIte, Nat.reduceEqDiff, Nat.reduceAdd, Nat.zero_add, not_false_eq_true, not_true_eq_false, List.toList_toArray, t0, t1, t4, t6, t7, t8, t9, t13, t14, pt, w1, w2, w4, r0, r1, r2, p8, IU, f2, f4]
        refine (typed_ok S7 (UR6.txt _ (List.getElem_mem hju)) (m := 20000) (by omega) (by omega) T7).use ?_
        rintro _ h9 ⟨w, l9, rfl, S9, hl9, T9, C9⟩
        simp only [wk, wt, wl, ↓reduceIte, Nat.reduceEqDiff, Nat.reduceAdd, Nat.zero_add, not_false_eq_true, not_true_eq_false, t0, t1, t4, t6, t7, t8, t9, t13, t14, wi, intOf_int, pt]
        exact ⟨⟨⟨Y, rfl⟩, ⟨Z, rfl⟩, C6.thenR C9, j + 1, l9, rfl, by omega, S9, hl9.trans hll7, T9⟩, by omega⟩
      | true =>
        rw [hsl] at p10
        simp only [wk, wt, wl, ↓reduceIte, Nat.reduceEqDiff, Nat.reduceAdd, Nat.zero_add, not_false_eq_true, not_true_eq_false, dK_t, t0, t4, t6, t7, t8, t9, t13, t14, pt, p10, p11, r0, IU, f0, build_p]
        refine has_ok.use ?_
        rintro _ h8 ⟨bb, rfl, K8⟩
        have S8 := S7.keeps H6 K8
        have UR8 := UR6.keeps K8
        obtain ⟨f0, _, f2, _, f4⟩ := UR8.field hxj
        have IU := UR8.rd.index underlying44 asz61 (q := .i64) (i := (j : Int)) (by omega) (by omega)
        rw [Int.toNat_natCast] at IU
        obtain ⟨p0, p5, p6, p7, p8, p9, p10, p11⟩ := pr_load (Keeps.var H6 K8 VP6)
        obtain ⟨w1, w2, w3, w4⟩ := wn_load (Keeps.var H6 K8 Vx6)
        obtain ⟨r0, r1, r2, r3⟩ := cR_load (Keeps.var H6 K8 Vy6)
        have C8 := C6.thenR K8.rg
        cases bb with
        | false =>
          simp only [wk, wt, wl, ↓reduceIte, Nat.reduceEqDiff, Nat.reduceAdd, Nat.zero_add, not_false_eq_true, not_true_eq_false, dK_t, t0, t4, t6, t7, t8, t9, t13, t14, pt]
          refine ⟨K8.reads H6, ?_⟩
          try simp only [wk, wt, wl, ↓reduceIte, Nat.reduceEqDiff, Nat.reduceAdd, Nat.zero_add, not_false_eq_true, not_true_eq_false, dK_t, t0, t1, t4, t6, t7, t8, t9, t13, t14, pt]
          refine adraw_last 25 mixed (by kernel_rfl) (by kernel_rfl) (by kernel_rfl) ?_
          simp only [wk, wt, wl, ↓reduceIte, Nat.reduceEqDiff, Nat.reduceAdd, Nat.zero_add, not_false_eq_true, not_true_eq_false, List.toList_toArray, t0, t1, t4, t6, t7, t8, t9, t13, t14, pt, w1, w2, w4, r0, r1, r2, p8, IU, f2, f4]
          refine (typed_ok S8 (UR8.txt _ (List.getElem_mem hju)) (m := 20000) (by omega) (by omega) T7).use ?_
          rintro _ h9 ⟨w, l9, rfl, S9, hl9, T9, C9⟩
          simp only [wk, wt, wl, ↓reduceIte, Nat.reduceEqDiff, Nat.reduceAdd, Nat.zero_add, not_false_eq_true, not_true_eq_false, t0, t1, t4, t6, t7, t8, t9, t13, t14, wi, intOf_int, pt]
          exact ⟨⟨⟨Y, rfl⟩, ⟨Z, rfl⟩, C8.thenR C9, j + 1, l9, rfl, by omega, S9, hl9.trans hll7, T9⟩, by omega⟩
        | true =>
          simp only [wk, wt, wl, ↓reduceIte, Nat.reduceEqDiff, Nat.reduceAdd, Nat.zero_add, not_false_eq_true, not_true_eq_false, dK_t, t0, t4, t6, t7, t8, t9, t13, t14, pt]
          refine ⟨K8.reads H6, ?_⟩
          try simp only [wk, wt, wl, ↓reduceIte, Nat.reduceEqDiff, Nat.reduceAdd, Nat.zero_add, not_false_eq_true, not_true_eq_false, dK_t, t0, t1, t4, t6, t7, t8, t9, t13, t14, pt]
          refine adraw_last 25 mixed (by kernel_rfl) (by kernel_rfl) (by kernel_rfl) ?_
          simp only [wk, wt, wl, ↓reduceIte, Nat.reduceEqDiff, Nat.reduceAdd, Nat.zero_add, not_false_eq_true, not_true_eq_false, List.toList_toArray, t0, t1, t4, t6, t7, t8, t9, t13, t14, pt, w1, w2, w4, r0, r1, r2, p8, IU, f2, f4]
          refine (typed_ok S8 (UR8.txt _ (List.getElem_mem hju)) (m := 20000) (by omega) (by omega) T7).use ?_
          rintro _ h9 ⟨w, l9, rfl, S9, hl9, T9, C9⟩
          simp only [wk, wt, wl, ↓reduceIte, Nat.reduceEqDiff, Nat.reduceAdd, Nat.zero_add, not_false_eq_true, not_true_eq_false, t0, t1, t4, t6, t7, t8, t9, t13, t14, wi, intOf_int, pt]
          exact ⟨⟨⟨Y, rfl⟩, ⟨Z, rfl⟩, C8.thenR C9, j + 1, l9, rfl, by omega, S9, hl9.trans hll7, T9⟩, by omega⟩
    · simp only [wk, wt, wl, ↓reduceIte, Nat.reduceEqDiff, Nat.reduceAdd, Nat.zero_add, not_false_eq_true, not_true_eq_false]
      exact ⟨l7, S7, hll7, T7, (K0.trans K5).rg.thenR C6⟩
end Go.Proofs.YtcgajolmjjeibaaDoor.Am
end
section
/- Grids of the document: the contract of Draw, by a walk. -/
set_option linter.unusedSimpArgs false
set_option linter.unusedVariables false
set_option maxHeartbeats 4000000
set_option maxRecDepth 20000
namespace Go.Proofs.YtcgajolmjjeibaaDoor.Am
open Go Go.RowKit Go.Proofs.Tryd
abbrev zG : List Value := [.int .i64 0, .int .i64 0, .slice none 0 0, .int .i64 0, .int .i64 0]
theorem bc0 {b : Nat} : abuild prog 63 #[(0, .slice (some ⟨b, 0, none⟩) 1 2)] = some (.agg #[.slice (some ⟨b, 0, none⟩) 1 2, .int .i64 0, .bool false]) := by simp [abuild, wt, aplaces, Instr.fill, Value.cells]
/-- What is drawn so far. -/
structure DG (h4 hh : Heap) (gb kb f : Nat) (R C : Int) (l0 l : List Cel) : Prop where
  S : GS hh gb kb f R C l
  len : l.length = l0.length
  T : TxLe 20000 l
  C : Ch (FR f h4) h4 hh
theorem DG.keeps {h4 hh h5 : Heap} {gb kb f : Nat} {R C : Int} {l0 l : List Cel} (D : DG h4 hh gb kb f R C l0 l) (K : Keeps hh h5) : DG h4 h5 gb kb f R C l0 l := ⟨D.S.keeps (Ch.wf D.C) K, D.len, D.T, D.C.thenR K.rg⟩
theorem DG.to {h4 hh h5 : Heap} {gb kb f : Nat} {R C : Int} {l0 l l' : List Cel} (D : DG h4 hh gb kb f R C l0 l) (S : GS h5 gb kb f R C l') (hl : l'.length = l.length) (T : TxLe 20000 l') (C1 : Ch (FR f hh) hh h5) : DG h4 h5 gb kb f R C l0 l' := ⟨S, hl.trans D.len, T, D.C.thenR C1⟩
theorem tx_blank {r c : Int} : TxLe 20000 (blankL r c) := fun d hd => by
  unfold blankL at hd
  rw [(List.mem_replicate.1 hd).2]; simp [bl]
theorem grid_varE {h : Heap} (H : Wf h) {R C : Int} {v : Value} (o : one v = true) : ∃ h', storeV prog (h.new 29 zG) 29 (.pointer (some ⟨h.size, 0, none⟩)) (.agg #[.int .i64 R, .int .i64 C, v, .int .i64 0, .int .i64 0]) = some (undef, h') ∧ VarE h' h.size 29 [.int .i64 R, .int .i64 C, v, .int .i64 0, .int .i64 0] ∧ Keeps h h' ∧ h'.size = h.size + 1 := by
  have N := Keeps.new H 29 zG
  obtain ⟨h', e, V, C1, z⟩ := (VarE.new (e := 29) H (cs := zG)).store (t := 29) (v := .agg #[.int .i64 R, .int .i64 C, v, .int .i64 0, .int .i64 0]) (i := 0) (Ch.wf N) asz29 (by simp [Value.cells, one_cells o]) (by simp [Value.cells, one_cells o, o, one_int])
  refine ⟨h', e, ?_, N.step C1 fun b e => by omega, z⟩
  have : over zG 0 (Value.agg #[.int .i64 R, .int .i64 C, v, .int .i64 0, .int .i64 0]).cells.toList = [.int .i64 R, .int .i64 C, v, .int .i64 0, .int .i64 0] := by
    rw [over_all (by simp [Value.cells, one_cells o])]; simp [Value.cells, one_cells o]
  rw [this] at V; exact V
theorem refDraw_ok {h : Heap} {r c y x : Int} {v tv : Value} {qs : List PaR} {msg : List Int} (V : PRS h v qs) (O : ∀ q, q ∈ qs → PrOk q) (hq : qs.length ≤ 1000) (X : RdI prog h .i32 tv msg) (hmsg : TR32 msg) :
    ACalls prog 7 #[.int .i64 r, .int .i64 c, v, tv, .int .i64 y, .int .i64 x] h (fun g h' => ∃ (gm : GM) (kb : Nat), g = gV gm (cvF kb gm.l.length) ∧ GR h' (cvF kb gm.l.length) gm.l ∧ TxLe 20000 gm.l ∧ gm.l.length ≤ 500000 ∧ Keeps h h') := by
  refine acalls_of_W' func7 rfl (by kernel_rfl) (by kernel_rfl) (by simp [ntmps7]) ?_
  intro H
  have hRC := size_rc r c
  obtain ⟨hm, hnn⟩ := size_mul r c
  have N1 := Keeps.new H 29 zG
  have U1 := VarE.new (e := 29) H (cs := zG)
  have z1 : (h.new 29 zG).size = h.size + 1 := rfl
  simp only [wk, wt, wl, ↓reduceIte, Nat.reduceEqDiff, Nat.reduceAdd, Nat.zero_add, not_false_eq_true, not_true_eq_false]
  generalize h.new 29 zG = h1 at *
  have H1 := Ch.wf N1
  refine refBlank_ok.use ?_
  rintro _ h2 ⟨kb, f, rfl, G2, hf, K2⟩
  have H2 := Ch.wf K2
  obtain ⟨h4, e4, V4, K4, z4⟩ := grid_varE (R := sizeR r) (C := sizeC c) (v := cvF kb (blankL r c).length) H2 rfl
  simp only [wk, wt, wl, ↓reduceIte, Nat.reduceEqDiff, Nat.reduceAdd, Nat.zero_add, not_false_eq_true, not_true_eq_false, e4]
  have K04 := (N1.trans K2).trans K4
  have H4 := Ch.wf K04
  have hle1 := Ch.le K2
  have hRC' : 2 ≤ sizeR r ∧ sizeR r ≤ 500 ∧ 2 ≤ sizeC c ∧ sizeC c ≤ 1000 ∧ sizeR r * sizeC c = (blankL r c).length := ⟨hRC.1, hRC.2.1, hRC.2.2.1, hRC.2.2.2, hm.symm⟩
  generalize hL0 : blankL r c = l0 at *
  generalize sizeR r = R at *
  generalize sizeC c = C at *
  generalize hgb : h2.size = gb at *
  have D0 : DG h4 h4 gb kb f R C l0 l0 := ⟨⟨V4, G2.keeps H2 K4, hRC'⟩, rfl, by rw [← hL0]; exact tx_blank, (Keeps.refl H4).rg⟩
  have V4' := V.keeps K04
  have X4 : RdI prog h4 .i32 tv msg := RdI.keeps X K04
  have U4 := U1.keeps H1 (K2.trans K4)
  have hfs := D0.S.G.sz
  have hCC : C ≠ 0 := by omega
  -- the border
  refine W_loop (fun tm hh => (tm 2 = v ∧ tm 3 = tv ∧ tm 4 = .int .i64 y ∧ tm 5 = .int .i64 x ∧ tm 12 = pt h.size ∧ tm 13 = pt gb) ∧ ∃ (i : Nat) (l : List Cel), tm 14 = .int .i64 (i : Int) ∧ i ≤ l0.length ∧ DG h4 hh gb kb f R C l0 l) (fun tm _ => (l0.length - intOf (tm 14)).toNat) ⟨⟨(by first | rfl | (simp only [wk, wt, wl, ↓reduceIte, Nat.reduceEqDiff, Nat.reduceAdd, Nat.zero_add, not_false_eq_true, not_true_eq_false]; done) | (simp only [wk, wt, wl, ↓reduceIte, Nat.reduceEqDiff, Nat.reduceAdd, Nat.zero_add, not_false_eq_true, not_true_eq_false]; rfl)), (by first | rfl | (simp only [wk, wt, wl, ↓reduceIte, Nat.reduceEqDiff, Nat.reduceAdd, Nat.zero_add, not_false_eq_true, not_true_eq_false]; done) | (simp only [wk, wt, wl, ↓reduceIte, Nat.reduceEqDiff, Nat.reduceAdd, Nat.zero_add, not_false_eq_true, not_true_eq_false]; rfl)), (by first | rfl | (simp only [wk, wt, wl, ↓reduceIte, Nat.reduceEqDiff, Nat.reduceAdd, Nat.zero_add, not_false_eq_true, not_true_eq_false]; done) | (simp only [wk, wt, wl, ↓reduceIte, Nat.reduceEqDiff, Nat.reduceAdd, Nat.zero_add, not_false_eq_true, not_true_eq_false]; rfl)), (by first | rfl | (simp only [wk, wt, wl, ↓reduceIte, Nat.reduceEqDiff, Nat.reduceAdd, Nat.zero_add, not_false_eq_true, not_true_eq_false]; done) | (simp only [wk, wt, wl, ↓reduceIte, Nat.reduceEqDiff, Nat.reduceAdd, Nat.zero_add, not_false_eq_true, not_true_eq_false]; rfl)), (by first | rfl | (simp only [wk, wt, wl, ↓reduceIte, Nat.reduceEqDiff, Nat.reduceAdd, Nat.zero_add, not_false_eq_true, not_true_eq_false]; done) | (simp only [wk, wt, wl, ↓reduceIte, Nat.reduceEqDiff, Nat.reduceAdd, Nat.zero_add, not_false_eq_true, not_true_eq_false]; rfl)), (by first | rfl | (simp only [wk, wt, wl, ↓reduceIte, Nat.reduceEqDiff, Nat.reduceAdd, Nat.zero_add, not_false_eq_true, not_true_eq_false]; done) | (simp only [wk, wt, wl, ↓reduceIte, Nat.reduceEqDiff, Nat.reduceAdd, Nat.zero_add, not_false_eq_true, not_true_eq_false]; rfl))⟩, 0, l0, (by first | rfl | (simp only [wk, wt, wl, ↓reduceIte, Nat.reduceEqDiff, Nat.reduceAdd, Nat.zero_add, not_false_eq_true, not_true_eq_false]; done) | (simp only [wk, wt, wl, ↓reduceIte, Nat.reduceEqDiff, Nat.reduceAdd, Nat.zero_add, not_false_eq_true, not_true_eq_false]; rfl)), by omega, D0⟩ ?_
  rintro tm hh ⟨⟨t2, t3, t4, t5, t12, t13⟩, i, l, t14, hi, D⟩
  obtain ⟨g0, g1, g2⟩ := D.S.loads
  have VV := V4'.chF hfs D.C
  have LV := VV.1.len underlying22
  have hDl := D.len
  have hC := D.S.i
  have w0 : IntKind.i64.wrap ((l.length : Int) - C) = (l.length : Int) - C := IntWalk.i64_in _ (by omega)
  by_cases c1 : (i : Int) < (l.length : Int) - C ∧ 1 < (qs.length : Int)
  · have d1 := decide_eq_true c1.1
    have d2 := decide_eq_true c1.2
    have Dh := D.S.V.1.lt (Ch.wf D.C)
    have wi : IntKind.i64.wrap ((i : Int) + 1) = ((i + 1 : Nat) : Int) := by rw [IntWalk.i64_in _ (by omega)]; omega
    have qo := abin_quo (P := prog) (t := 3) (k := .i64) (x := (i : Int)) (y := C) hCC
    have rm := abin_rem (P := prog) (t := 3) (k := .i64) (x := (i : Int)) (y := C) hCC
    simp only [wk, wt, wl, ↓reduceIte, Nat.reduceEqDiff, Nat.reduceAdd, Nat.zero_add, not_false_eq_true, not_true_eq_false, t2, t3, t4, t5, t12, t13, t14, pt, g1, g2, CF.len, LV, w0, d1, d2]
    refine adraw_order [(0, false), (1, false), (2, false), (3, false), (4, false), (5, false), (6, false), (7, false), (8, false), (9, true), (10, false)] mixed (by kernel_rfl) (by kernel_rfl) (by kernel_rfl) (by with_reducible repeat (first | exact PF_retK | refine PF_thenK ?_ | refine PF_blockK ?_)) ?_
    simp only [wk, wt, wl, ↓reduceIte, Nat.reduceEqDiff, Nat.reduceAdd, Nat.zero_add, not_false_eq_true, not_true_eq_false, dK_t, t2, t13, t14, pt, g1, qo, rm]
    refine (inside_ok VV (by omega)).use ?_
    rintro _ h6 ⟨b, rfl, K6⟩
    have D6 := D.keeps K6
    obtain ⟨_, g1, g2⟩ := D6.S.loads
    cases b with
    | true =>
      simp only [wk, wt, wl, ↓reduceIte, Nat.reduceEqDiff, Nat.reduceAdd, Nat.zero_add, not_false_eq_true, not_true_eq_false, dK_t, t2, t3, t4, t5, t12, t13, t14, pt, wi, intOf_int]
      exact ⟨K6.reads (Ch.wf D.C), ⟨i + 1, l, rfl, by omega, D6⟩, by omega⟩
    | false =>
      have N7 := Keeps.new (Ch.wf K6) 21 [.int .i32 124]
      have T7 : RdI prog (h6.new 21 [.int .i32 124]) .i32 (.slice (some ⟨h6.size, 0, none⟩) 1 2) [124] := Rd.new (Ch.wf K6) asz21 rfl
      have D7 := D6.keeps N7
      obtain ⟨h8, e8, G8, C8, z8⟩ := D7.S.G.set (Ch.wf N7) (i := i) (c := ⟨[124], 0, false⟩) (by omega) T7
      have IX : aindexAddr prog 27 (cvF kb l.length) (.int .i64 (i : Int)) = some (.pointer (some ⟨kb, i * 3, none⟩)) := by have := CF.index (kb := kb) (n := l.length) (z := (i : Int)) (by omega) (by omega); rwa [Int.toNat_natCast] at this
      simp only [wk, wt, wl, ↓reduceIte, Nat.reduceEqDiff, Nat.reduceAdd, Nat.zero_add, not_false_eq_true, not_true_eq_false, dK_t, t2, t3, t4, t5, t12, t13, t14, pt, g2, bsr1, bc0, IX, e8, wi, intOf_int]
      exact ⟨K6.reads (Ch.wf D.C), ⟨i + 1, _, rfl, by omega, D7.to (D7.S.with (Ch.wf N7) C8 G8 (by simp)) (by simp) (fun d hd => by
        rcases List.mem_or_eq_of_mem_set hd with hd | rfl
        · exact D7.T d hd
        · simp) C8⟩, by omega⟩
  by_cases c2 : (i : Int) < (l.length : Int) - C
  · have d1 := decide_eq_true c2
    have d2 : decide (1 < (qs.length : Int)) = false := decide_eq_false fun e => c1 ⟨c2, e⟩
    -- the panes' rows
    simp only [wk, wt, wl, ↓reduceIte, Nat.reduceEqDiff, Nat.reduceAdd, Nat.zero_add, not_false_eq_true, not_true_eq_false, t2, t3, t4, t5, t12, t13, t14, pt, g1, g2, CF.len, LV, w0, d1, d2]
    refine W_loop (fun tm hh => (tm 2 = v ∧ tm 3 = tv ∧ tm 4 = .int .i64 y ∧ tm 5 = .int .i64 x ∧ tm 12 = pt h.size ∧ tm 13 = pt gb) ∧ ∃ (k : Nat) (l : List Cel), tm 15 = .int .i64 (k : Int) ∧ k ≤ qs.length ∧ DG h4 hh gb kb f R C l0 l) (fun tm _ => (qs.length - intOf (tm 15)).toNat) ⟨⟨(by first | rfl | (simp only [wk, wt, wl, ↓reduceIte, Nat.reduceEqDiff, Nat.reduceAdd, Nat.zero_add, not_false_eq_true, not_true_eq_false]; done) | (simp only [wk, wt, wl, ↓reduceIte, Nat.reduceEqDiff, Nat.reduceAdd, Nat.zero_add, not_false_eq_true, not_true_eq_false]; rfl) | (simp only [wk, wt, wl, ↓reduceIte, Nat.reduceEqDiff, Nat.reduceAdd, Nat.zero_add, not_false_eq_true, not_true_eq_false, t2]; done) | (simp only [wk, wt, wl, ↓reduceIte, Nat.reduceEqDiff, Nat.reduceAdd, Nat.zero_add, not_false_eq_true, not_true_eq_false, t2]; rfl)), (by first | rfl | (simp only [wk, wt, wl, ↓reduceIte, Nat.reduceEqDiff, Nat.reduceAdd, Nat.zero_add, not_false_eq_true, not_true_eq_false]; done) | (simp only [wk, wt, wl, ↓reduceIte, Nat.reduceEqDiff, Nat.reduceAdd, Nat.zero_add, not_false_eq_true, not_true_eq_false]; rfl) | (simp only [wk, wt, wl, ↓reduceIte, Nat.reduceEqDiff, Nat.reduceAdd, Nat.zero_add, not_false_eq_true, not_true_eq_false, t3]; done) | (simp only [wk, wt, wl, ↓reduceIte, Nat.reduceEqDiff, Nat.reduceAdd, Nat.zero_add, not_false_eq_true, not_true_eq_false, t3]; rfl)), (by first | rfl | (simp only [wk, wt, wl, ↓reduceIte, Nat.reduceEqDiff, Nat.reduceAdd, Nat.zero_add, not_false_eq_true, not_true_eq_false]; done) | (simp only [wk, wt, wl, ↓reduceIte, Nat.reduceEqDiff, Nat.reduceAdd, Nat.zero_add, not_false_eq_true, not_true_eq_false]; rfl) | (simp only [wk, wt, wl, ↓reduceIte, Nat.reduceEqDiff, Nat.reduceAdd, Nat.zero_add, not_false_eq_true, not_true_eq_false, t4]; done) | (simp only [wk, wt, wl, ↓reduceIte, Nat.reduceEqDiff, Nat.reduceAdd, Nat.zero_add, not_false_eq_true, not_true_eq_false, t4]; rfl)), (by first | rfl | (simp only [wk, wt, wl, ↓reduceIte, Nat.reduceEqDiff, Nat.reduceAdd, Nat.zero_add, not_false_eq_true, not_true_eq_false]; done) | (simp only [wk, wt, wl, ↓reduceIte, Nat.reduceEqDiff, Nat.reduceAdd, Nat.zero_add, not_false_eq_true, not_true_eq_false]; rfl) | (simp only [wk, wt, wl, ↓reduceIte, Nat.reduceEqDiff, Nat.reduceAdd, Nat.zero_add, not_false_eq_true, not_true_eq_false, t5]; done) | (simp only [wk, wt, wl, ↓reduceIte, Nat.reduceEqDiff, Nat.reduceAdd, Nat.zero_add, not_false_eq_true, not_true_eq_false, t5]; rfl)), (by first | rfl | (simp only [wk, wt, wl, ↓reduceIte, Nat.reduceEqDiff, Nat.reduceAdd, Nat.zero_add, not_false_eq_true, not_true_eq_false]; done) | (simp only [wk, wt, wl, ↓reduceIte, Nat.reduceEqDiff, Nat.reduceAdd, Nat.zero_add, not_false_eq_true, not_true_eq_false]; rfl) | (simp only [wk, wt, wl, ↓reduceIte, Nat.reduceEqDiff, Nat.reduceAdd, Nat.zero_add, not_false_eq_true, not_true_eq_false, t12]; done) | (simp only [wk, wt, wl, ↓reduceIte, Nat.reduceEqDiff, Nat.reduceAdd, Nat.zero_add, not_false_eq_true, not_true_eq_false, t12]; rfl)), (by first | rfl | (simp only [wk, wt, wl, ↓reduceIte, Nat.reduceEqDiff, Nat.reduceAdd, Nat.zero_add, not_false_eq_true, not_true_eq_false]; done) | (simp only [wk, wt, wl, ↓reduceIte, Nat.reduceEqDiff, Nat.reduceAdd, Nat.zero_add, not_false_eq_true, not_true_eq_false]; rfl) | (simp only [wk, wt, wl, ↓reduceIte, Nat.reduceEqDiff, Nat.reduceAdd, Nat.zero_add, not_false_eq_true, not_true_eq_false, t13]; done) | (simp only [wk, wt, wl, ↓reduceIte, Nat.reduceEqDiff, Nat.reduceAdd, Nat.zero_add, not_false_eq_true, not_true_eq_false, t13]; rfl))⟩, 0, l, (by first | rfl | (simp only [wk, wt, wl, ↓reduceIte, Nat.reduceEqDiff, Nat.reduceAdd, Nat.zero_add, not_false_eq_true, not_true_eq_false]; done) | (simp only [wk, wt, wl, ↓reduceIte, Nat.reduceEqDiff, Nat.reduceAdd, Nat.zero_add, not_false_eq_true, not_true_eq_false]; rfl)), by omega, D⟩ ?_
    clear t2 t3 t4 t5 t12 t13 t14 g0 g1 g2 VV LV w0 hDl
    rintro tm hh ⟨⟨t2, t3, t4, t5, t12, t13⟩, k, l, t15, hk, D⟩
    have VV := V4'.chF hfs D.C
    have LV := VV.1.len underlying22
    by_cases c1 : (k : Int) < (qs.length : Int)
    case neg =>
      have d1 := decide_eq_false c1
      simp only [wk, wt, wl, ↓reduceIte, Nat.reduceEqDiff, Nat.reduceAdd, Nat.zero_add, not_false_eq_true, not_true_eq_false, t2, t3, t4, t5, t12, t13, t15, LV, d1]
      -- the status rows
      refine W_loop (fun tm hh => (tm 2 = v ∧ tm 3 = tv ∧ tm 4 = .int .i64 y ∧ tm 5 = .int .i64 x ∧ tm 12 = pt h.size ∧ tm 13 = pt gb) ∧ ∃ (k : Nat) (l : List Cel), tm 17 = .int .i64 (k : Int) ∧ k ≤ qs.length ∧ DG h4 hh gb kb f R C l0 l) (fun tm _ => (qs.length - intOf (tm 17)).toNat) ⟨⟨(by first | rfl | (simp only [wk, wt, wl, ↓reduceIte, Nat.reduceEqDiff, Nat.reduceAdd, Nat.zero_add, not_false_eq_true, not_true_eq_false]; done) | (simp only [wk, wt, wl, ↓reduceIte, Nat.reduceEqDiff, Nat.reduceAdd, Nat.zero_add, not_false_eq_true, not_true_eq_false]; rfl) | (simp only [wk, wt, wl, ↓reduceIte, Nat.reduceEqDiff, Nat.reduceAdd, Nat.zero_add, not_false_eq_true, not_true_eq_false, t2]; done) | (simp only [wk, wt, wl, ↓reduceIte, Nat.reduceEqDiff, Nat.reduceAdd, Nat.zero_add, not_false_eq_true, not_true_eq_false, t2]; rfl)), (by first | rfl | (simp only [wk, wt, wl, ↓reduceIte, Nat.reduceEqDiff, Nat.reduceAdd, Nat.zero_add, not_false_eq_true, not_true_eq_false]; done) | (simp only [wk, wt, wl, ↓reduceIte, Nat.reduceEqDiff, Nat.reduceAdd, Nat.zero_add, not_false_eq_true, not_true_eq_false]; rfl) | (simp only [wk, wt, wl, ↓reduceIte, Nat.reduceEqDiff, Nat.reduceAdd, Nat.zero_add, not_false_eq_true, not_true_eq_false, t3]; done) | (simp only [wk, wt, wl, ↓reduceIte, Nat.reduceEqDiff, Nat.reduceAdd, Nat.zero_add, not_false_eq_true, not_true_eq_false, t3]; rfl)), (by first | rfl | (simp only [wk, wt, wl, ↓reduceIte, Nat.reduceEqDiff, Nat.reduceAdd, Nat.zero_add, not_false_eq_true, not_true_eq_false]; done) | (simp only [wk, wt, wl, ↓reduceIte, Nat.reduceEqDiff, Nat.reduceAdd, Nat.zero_add, not_false_eq_true, not_true_eq_false]; rfl) | (simp only [wk, wt, wl, ↓reduceIte, Nat.reduceEqDiff, Nat.reduceAdd, Nat.zero_add, not_false_eq_true, not_true_eq_false, t4]; done) | (simp only [wk, wt, wl, ↓reduceIte, Nat.reduceEqDiff, Nat.reduceAdd, Nat.zero_add, not_false_eq_true, not_true_eq_false, t4]; rfl)), (by first | rfl | (simp only [wk, wt, wl, ↓reduceIte, Nat.reduceEqDiff, Nat.reduceAdd, Nat.zero_add, not_false_eq_true, not_true_eq_false]; done) | (simp only [wk, wt, wl, ↓reduceIte, Nat.reduceEqDiff, Nat.reduceAdd, Nat.zero_add, not_false_eq_true, not_true_eq_false]; rfl) | (simp only [wk, wt, wl, ↓reduceIte, Nat.reduceEqDiff, Nat.reduceAdd, Nat.zero_add, not_false_eq_true, not_true_eq_false, t5]; done) | (simp only [wk, wt, wl, ↓reduceIte, Nat.reduceEqDiff, Nat.reduceAdd, Nat.zero_add, not_false_eq_true, not_true_eq_false, t5]; rfl)), (by first | rfl | (simp only [wk, wt, wl, ↓reduceIte, Nat.reduceEqDiff, Nat.reduceAdd, Nat.zero_add, not_false_eq_true, not_true_eq_false]; done) | (simp only [wk, wt, wl, ↓reduceIte, Nat.reduceEqDiff, Nat.reduceAdd, Nat.zero_add, not_false_eq_true, not_true_eq_false]; rfl) | (simp only [wk, wt, wl, ↓reduceIte, Nat.reduceEqDiff, Nat.reduceAdd, Nat.zero_add, not_false_eq_true, not_true_eq_false, t12]; done) | (simp only [wk, wt, wl, ↓reduceIte, Nat.reduceEqDiff, Nat.reduceAdd, Nat.zero_add, not_false_eq_true, not_true_eq_false, t12]; rfl)), (by first | rfl | (simp only [wk, wt, wl, ↓reduceIte, Nat.reduceEqDiff, Nat.reduceAdd, Nat.zero_add, not_false_eq_true, not_true_eq_false]; done) | (simp only [wk, wt, wl, ↓reduceIte, Nat.reduceEqDiff, Nat.reduceAdd, Nat.zero_add, not_false_eq_true, not_true_eq_false]; rfl) | (simp only [wk, wt, wl, ↓reduceIte, Nat.reduceEqDiff, Nat.reduceAdd, Nat.zero_add, not_false_eq_true, not_true_eq_false, t13]; done) | (simp only [wk, wt, wl, ↓reduceIte, Nat.reduceEqDiff, Nat.reduceAdd, Nat.zero_add, not_false_eq_true, not_true_eq_false, t13]; rfl))⟩, 0, l, (by first | rfl | (simp only [wk, wt, wl, ↓reduceIte, Nat.reduceEqDiff, Nat.reduceAdd, Nat.zero_add, not_false_eq_true, not_true_eq_false]; done) | (simp only [wk, wt, wl, ↓reduceIte, Nat.reduceEqDiff, Nat.reduceAdd, Nat.zero_add, not_false_eq_true, not_true_eq_false]; rfl)), by omega, D⟩ ?_
      clear t2 t3 t4 t5 t12 t13 t15 VV LV D
      rintro tm hh ⟨⟨t2, t3, t4, t5, t12, t13⟩, k, l, t17, hk, D⟩
      have VV := V4'.chF hfs D.C
      have LV := VV.1.len underlying22
      by_cases c1 : (k : Int) < (qs.length : Int)
      case neg =>
        have d1 := decide_eq_false c1
        simp only [wk, wt, wl, ↓reduceIte, Nat.reduceEqDiff, Nat.reduceAdd, Nat.zero_add, not_false_eq_true, not_true_eq_false, t2, t3, t4, t5, t12, t13, t17, LV, d1]
        -- the message
        obtain ⟨g0, g1, g2⟩ := D.S.loads
        have wR : IntKind.i64.wrap (R - 1) = R - 1 := IntWalk.i64_in _ (by omega)
        have wC : IntKind.i64.wrap (C - 1) = C - 1 := IntWalk.i64_in _ (by omega)
        simp only [wk, wt, wl, ↓reduceIte, Nat.reduceEqDiff, Nat.reduceAdd, Nat.zero_add, not_false_eq_true, not_true_eq_false, t2, t3, t4, t5, t12, t13, pt, g0, g1, wR]
        refine (refRow_ok D.S (Rd.chF X4 hfs D.C (by decide)) hmsg D.T).use ?_
        rintro _ hz ⟨lz, Sz, hlz, Tz, Cz⟩
        have Dz := D.to Sz hlz Tz Cz
        obtain ⟨g0, g1, g2⟩ := Dz.S.loads
        have Hz := Ch.wf Dz.C
        have Uz := U4.ch H4 Dz.C (U4.1.offF (U4.ne hfs asz29 (by decide)))
        have hgh : gb ≠ h.size := by omega
        obtain ⟨ha, ea, Va, Ca, za⟩ := Dz.S.V.store1 Hz (t := 3) (v := .int .i64 (imax 0 (imin y (R - 1)))) (i := 3) asz3 (by simp) rfl
        simp only [List.set_cons_succ, List.set_cons_zero] at Va
        obtain ⟨hb, eb, Vb, Cb, zb⟩ := Va.store1 (Ch.wf Ca) (t := 3) (v := .int .i64 (imax 0 (imin x (C - 1)))) (i := 4) asz3 (by simp) rfl
        simp only [List.set_cons_succ, List.set_cons_zero] at Vb
        have Lb := Vb.1.loadA (P := prog) (t := 29) underlying29 rfl asz29
        have Ub := (Uz.ch Hz Ca (fun e => hgh e.symm)).ch (Ch.wf Ca) Cb (fun e => hgh e.symm)
        have la1 : aload prog ha 3 ⟨gb, 1, none⟩ = some (.int .i64 C) := Va.1.load1 (P := prog) (t := 3) underlying3 rfl (i := 1)
        obtain ⟨hc, ec, Uc, Cc, zc⟩ := Ub.store (Ch.wf Cb) (t := 29) (v := .agg #[.int .i64 R, .int .i64 C, cvF kb lz.length, .int .i64 (imax 0 (imin y (R - 1))), .int .i64 (imax 0 (imin x (C - 1)))]) (i := 0) asz29 (by simp [Value.cells, cvF]) (by simp [Value.cells, one, cvF])
        have ovc : over zG 0 (Value.agg #[.int .i64 R, .int .i64 C, cvF kb lz.length, .int .i64 (imax 0 (imin y (R - 1))), .int .i64 (imax 0 (imin x (C - 1)))]).cells.toList = [.int .i64 R, .int .i64 C, cvF kb lz.length, .int .i64 (imax 0 (imin y (R - 1))), .int .i64 (imax 0 (imin x (C - 1)))] := by rw [over_all (by simp [Value.cells, cvF])]; simp [Value.cells, cvF]
        rw [ovc] at Uc
        have Lc := Uc.1.loadA (P := prog) (t := 29) underlying29 rfl asz29
        have Gz := Dz.S.G
        have Ga := Gz.ch Hz Ca (fun b e => by obtain rfl : b = gb := e; exact ⟨_, _, 5, Dz.S.V, asz29, by decide, by decide⟩)
        have Gb := Ga.ch (Ch.wf Ca) Cb (fun b e => by obtain rfl : b = gb := e; exact ⟨_, _, 5, Va, asz29, by decide, by decide⟩)
        have Gc := Gb.ch (Ch.wf Cb) Cc (fun b e => by obtain rfl : b = h.size := e; exact ⟨_, _, 5, Ub, asz29, by decide, by decide⟩)
        have KF : Keeps h hc := (((K04.step Dz.C fun b ⟨k, g, e⟩ => by have := H4.2 b k g; have : k.fam = f := e; omega).step Ca fun b e => by omega).step Cb fun b e => by omega).step Cc fun b e => by omega
        simp only [wk, wt, wl, ↓reduceIte, Nat.reduceEqDiff, Nat.reduceAdd, Nat.zero_add, not_false_eq_true, not_true_eq_false, t2, t3, t4, t5, t12, t13, pt, mxV, mnV, g0, g1, wR, ea, la1, wC, eb, Lb, ec, Lc]
        exact ⟨⟨R, C, lz, imax 0 (imin y (R - 1)), imax 0 (imin x (C - 1))⟩, kb, rfl, Gc.gr (Ch.wf Cc), Tz, by have := Dz.S.len; exact this, KF⟩
      have d1 := decide_eq_true c1
      by_cases c2 : 1 < (qs.length : Int)
      case neg =>
        have d2 := decide_eq_false c2
        simp only [wk, wt, wl, ↓reduceIte, Nat.reduceEqDiff, Nat.reduceAdd, Nat.zero_add, not_false_eq_true, not_true_eq_false, t2, t3, t4, t5, t12, t13, t17, LV, d1, d2]
        -- the message
        obtain ⟨g0, g1, g2⟩ := D.S.loads
        have wR : IntKind.i64.wrap (R - 1) = R - 1 := IntWalk.i64_in _ (by omega)
        have wC : IntKind.i64.wrap (C - 1) = C - 1 := IntWalk.i64_in _ (by omega)
        simp only [wk, wt, wl, ↓reduceIte, Nat.reduceEqDiff, Nat.reduceAdd, Nat.zero_add, not_false_eq_true, not_true_eq_false, t2, t3, t4, t5, t12, t13, pt, g0, g1, wR]
        refine (refRow_ok D.S (Rd.chF X4 hfs D.C (by decide)) hmsg D.T).use ?_
        rintro _ hz ⟨lz, Sz, hlz, Tz, Cz⟩
        have Dz := D.to Sz hlz Tz Cz
        obtain ⟨g0, g1, g2⟩ := Dz.S.loads
        have Hz := Ch.wf Dz.C
        have Uz := U4.ch H4 Dz.C (U4.1.offF (U4.ne hfs asz29 (by decide)))
        have hgh : gb ≠ h.size := by omega
        obtain ⟨ha, ea, Va, Ca, za⟩ := Dz.S.V.store1 Hz (t := 3) (v := .int .i64 (imax 0 (imin y (R - 1)))) (i := 3) asz3 (by simp) rfl
        simp only [List.set_cons_succ, List.set_cons_zero] at Va
        obtain ⟨hb, eb, Vb, Cb, zb⟩ := Va.store1 (Ch.wf Ca) (t := 3) (v := .int .i64 (imax 0 (imin x (C - 1)))) (i := 4) asz3 (by simp) rfl
        simp only [List.set_cons_succ, List.set_cons_zero] at Vb
        have Lb := Vb.1.loadA (P := prog) (t := 29) underlying29 rfl asz29
        have Ub := (Uz.ch Hz Ca (fun e => hgh e.symm)).ch (Ch.wf Ca) Cb (fun e => hgh e.symm)
        have la1 : aload prog ha 3 ⟨gb, 1, none⟩ = some (.int .i64 C) := Va.1.load1 (P := prog) (t := 3) underlying3 rfl (i := 1)
        obtain ⟨hc, ec, Uc, Cc, zc⟩ := Ub.store (Ch.wf Cb) (t := 29) (v := .agg #[.int .i64 R, .int .i64 C, cvF kb lz.length, .int .i64 (imax 0 (imin y (R - 1))), .int .i64 (imax 0 (imin x (C - 1)))]) (i := 0) asz29 (by simp [Value.cells, cvF]) (by simp [Value.cells, one, cvF])
        have ovc : over zG 0 (Value.agg #[.int .i64 R, .int .i64 C, cvF kb lz.length, .int .i64 (imax 0 (imin y (R - 1))), .int .i64 (imax 0 (imin x (C - 1)))]).cells.toList = [.int .i64 R, .int .i64 C, cvF kb lz.length, .int .i64 (imax 0 (imin y (R - 1))), .int .i64 (imax 0 (imin x (C - 1)))] := by rw [over_all (by simp [Value.cells, cvF])]; simp [Value.cells, cvF]
        rw [ovc] at Uc
        have Lc := Uc.1.loadA (P := prog) (t := 29) underlying29 rfl asz29
        have Gz := Dz.S.G
        have Ga := Gz.ch Hz Ca (fun b e => by obtain rfl : b = gb := e; exact ⟨_, _, 5, Dz.S.V, asz29, by decide, by decide⟩)
        have Gb := Ga.ch (Ch.wf Ca) Cb (fun b e => by obtain rfl : b = gb := e; exact ⟨_, _, 5, Va, asz29, by decide, by decide⟩)
        have Gc := Gb.ch (Ch.wf Cb) Cc (fun b e => by obtain rfl : b = h.size := e; exact ⟨_, _, 5, Ub, asz29, by decide, by decide⟩)
        have KF : Keeps h hc := (((K04.step Dz.C fun b ⟨k, g, e⟩ => by have := H4.2 b k g; have : k.fam = f := e; omega).step Ca fun b e => by omega).step Cb fun b e => by omega).step Cc fun b e => by omega
        simp only [wk, wt, wl, ↓reduceIte, Nat.reduceEqDiff, Nat.reduceAdd, Nat.zero_add, not_false_eq_true, not_true_eq_false, t2, t3, t4, t5, t12, t13, pt, mxV, mnV, g0, g1, wR, ea, la1, wC, eb, Lb, ec, Lc]
        exact ⟨⟨R, C, lz, imax 0 (imin y (R - 1)), imax 0 (imin x (C - 1))⟩, kb, rfl, Gc.gr (Ch.wf Cc), Tz, by have := Dz.S.len; exact this, KF⟩
      have d2 := decide_eq_true c2
      obtain ⟨q, hqk⟩ : ∃ q, qs[k]? = some q := ⟨_, List.getElem?_eq_getElem (by omega)⟩
      obtain ⟨IX, _, LW, _, _, _⟩ := VV.at hqk
      obtain ⟨h5, e5, W5, K5, z5'⟩ := win_var (q := q) (Ch.wf D.C)
      obtain ⟨w1, w2, w3, w4⟩ := wn_load W5
      have D5 := D.keeps K5
      have h4le := Ch.le D.C
      have wk1 : IntKind.i64.wrap ((k : Int) + 1) = ((k + 1 : Nat) : Int) := by rw [IntWalk.i64_in _ (by omega)]; omega
      simp only [wk, wt, wl, ↓reduceIte, Nat.reduceEqDiff, Nat.reduceAdd, Nat.zero_add, not_false_eq_true, not_true_eq_false, t2, t3, t4, t5, t12, t13, t17, LV, d1, d2, IX, LW, newWin, e5, w2, mxV]
      have M0 := imax_spec 0 q.left
      refine W_loop (fun tm h6 => (tm 2 = v ∧ tm 3 = tv ∧ tm 4 = .int .i64 y ∧ tm 5 = .int .i64 x ∧ tm 12 = pt h.size ∧ tm 13 = pt gb ∧ tm 17 = .int .i64 (k : Int) ∧ tm 18 = pt hh.size) ∧ Ch (FR f h5) h5 h6 ∧ ∃ (z : Int) (l : List Cel), tm 19 = .int .i64 z ∧ 0 ≤ z ∧ DG h4 h6 gb kb f R C l0 l) (fun tm _ => (C - intOf (tm 19)).toNat) ⟨⟨(by first | rfl | (simp only [wk, wt, wl, ↓reduceIte, Nat.reduceEqDiff, Nat.reduceAdd, Nat.zero_add, not_false_eq_true, not_true_eq_false]; done) | (simp only [wk, wt, wl, ↓reduceIte, Nat.reduceEqDiff, Nat.reduceAdd, Nat.zero_add, not_false_eq_true, not_true_eq_false]; rfl) | (simp only [wk, wt, wl, ↓reduceIte, Nat.reduceEqDiff, Nat.reduceAdd, Nat.zero_add, not_false_eq_true, not_true_eq_false, t2]; done) | (simp only [wk, wt, wl, ↓reduceIte, Nat.reduceEqDiff, Nat.reduceAdd, Nat.zero_add, not_false_eq_true, not_true_eq_false, t2]; rfl)), (by first | rfl | (simp only [wk, wt, wl, ↓reduceIte, Nat.reduceEqDiff, Nat.reduceAdd, Nat.zero_add, not_false_eq_true, not_true_eq_false]; done) | (simp only [wk, wt, wl, ↓reduceIte, Nat.reduceEqDiff, Nat.reduceAdd, Nat.zero_add, not_false_eq_true, not_true_eq_false]; rfl) | (simp only [wk, wt, wl, ↓reduceIte, Nat.reduceEqDiff, Nat.reduceAdd, Nat.zero_add, not_false_eq_true, not_true_eq_false, t3]; done) | (simp only [wk, wt, wl, ↓reduceIte, Nat.reduceEqDiff, Nat.reduceAdd, Nat.zero_add, not_false_eq_true, not_true_eq_false, t3]; rfl)), (by first | rfl | (simp only [wk, wt, wl, ↓reduceIte, Nat.reduceEqDiff, Nat.reduceAdd, Nat.zero_add, not_false_eq_true, not_true_eq_false]; done) | (simp only [wk, wt, wl, ↓reduceIte, Nat.reduceEqDiff, Nat.reduceAdd, Nat.zero_add, not_false_eq_true, not_true_eq_false]; rfl) | (simp only [wk, wt, wl, ↓reduceIte, Nat.reduceEqDiff, Nat.reduceAdd, Nat.zero_add, not_false_eq_true, not_true_eq_false, t4]; done) | (simp only [wk, wt, wl, ↓reduceIte, Nat.reduceEqDiff, Nat.reduceAdd, Nat.zero_add, not_false_eq_true, not_true_eq_false, t4]; rfl)), (by first | rfl | (simp only [wk, wt, wl, ↓reduceIte, Nat.reduceEqDiff, Nat.reduceAdd, Nat.zero_add, not_false_eq_true, not_true_eq_false]; done) | (simp only [wk, wt, wl, ↓reduceIte, Nat.reduceEqDiff, Nat.reduceAdd, Nat.zero_add, not_false_eq_true, not_true_eq_false]; rfl) | (simp only [wk, wt, wl, ↓reduceIte, Nat.reduceEqDiff, Nat.reduceAdd, Nat.zero_add, not_false_eq_true, not_true_eq_false, t5]; done) | (simp only [wk, wt, wl, ↓reduceIte, Nat.reduceEqDiff, Nat.reduceAdd, Nat.zero_add, not_false_eq_true, not_true_eq_false, t5]; rfl)), (by first | rfl | (simp only [wk, wt, wl, ↓reduceIte, Nat.reduceEqDiff, Nat.reduceAdd, Nat.zero_add, not_false_eq_true, not_true_eq_false]; done) | (simp only [wk, wt, wl, ↓reduceIte, Nat.reduceEqDiff, Nat.reduceAdd, Nat.zero_add, not_false_eq_true, not_true_eq_false]; rfl) | (simp only [wk, wt, wl, ↓reduceIte, Nat.reduceEqDiff, Nat.reduceAdd, Nat.zero_add, not_false_eq_true, not_true_eq_false, t12]; done) | (simp only [wk, wt, wl, ↓reduceIte, Nat.reduceEqDiff, Nat.reduceAdd, Nat.zero_add, not_false_eq_true, not_true_eq_false, t12]; rfl)), (by first | rfl | (simp only [wk, wt, wl, ↓reduceIte, Nat.reduceEqDiff, Nat.reduceAdd, Nat.zero_add, not_false_eq_true, not_true_eq_false]; done) | (simp only [wk, wt, wl, ↓reduceIte, Nat.reduceEqDiff, Nat.reduceAdd, Nat.zero_add, not_false_eq_true, not_true_eq_false]; rfl) | (simp only [wk, wt, wl, ↓reduceIte, Nat.reduceEqDiff, Nat.reduceAdd, Nat.zero_add, not_false_eq_true, not_true_eq_false, t13]; done) | (simp only [wk, wt, wl, ↓reduceIte, Nat.reduceEqDiff, Nat.reduceAdd, Nat.zero_add, not_false_eq_true, not_true_eq_false, t13]; rfl)), (by first | rfl | (simp only [wk, wt, wl, ↓reduceIte, Nat.reduceEqDiff, Nat.reduceAdd, Nat.zero_add, not_false_eq_true, not_true_eq_false]; done) | (simp only [wk, wt, wl, ↓reduceIte, Nat.reduceEqDiff, Nat.reduceAdd, Nat.zero_add, not_false_eq_true, not_true_eq_false]; rfl) | (simp only [wk, wt, wl, ↓reduceIte, Nat.reduceEqDiff, Nat.reduceAdd, Nat.zero_add, not_false_eq_true, not_true_eq_false, t17]; done) | (simp only [wk, wt, wl, ↓reduceIte, Nat.reduceEqDiff, Nat.reduceAdd, Nat.zero_add, not_false_eq_true, not_true_eq_false, t17]; rfl)), (by first | rfl | (simp only [wk, wt, wl, ↓reduceIte, Nat.reduceEqDiff, Nat.reduceAdd, Nat.zero_add, not_false_eq_true, not_true_eq_false]; done) | (simp only [wk, wt, wl, ↓reduceIte, Nat.reduceEqDiff, Nat.reduceAdd, Nat.zero_add, not_false_eq_true, not_true_eq_false]; rfl))⟩, (Keeps.refl (Ch.wf K5)).rg, imax 0 q.left, l, (by first | rfl | (simp only [wk, wt, wl, ↓reduceIte, Nat.reduceEqDiff, Nat.reduceAdd, Nat.zero_add, not_false_eq_true, not_true_eq_false]; done) | (simp only [wk, wt, wl, ↓reduceIte, Nat.reduceEqDiff, Nat.reduceAdd, Nat.zero_add, not_false_eq_true, not_true_eq_false]; rfl)), by omega, D5⟩ ?_
      clear t2 t3 t4 t5 t12 t13 t17
      rintro tm h6 ⟨⟨t2, t3, t4, t5, t12, t13, t17, t18⟩, C6, z, l6, t19, hz0, D6⟩
      have W6 := Var.chF (Ch.wf K5) W5 C6 (by have := hfs.1; omega)
      obtain ⟨w1, w2, w3, w4⟩ := wn_load W6
      obtain ⟨_, g1, g2⟩ := D6.S.loads
      have M2 := imin_spec C (IntKind.i64.wrap (q.left + q.cols))
      simp only [wk, wt, wl, ↓reduceIte, Nat.reduceEqDiff, Nat.reduceAdd, Nat.zero_add, not_false_eq_true, not_true_eq_false, t2, t3, t4, t5, t12, t13, t17, t18, t19, pt, g1, w2, w4, mnV]
      refine condK_dec (fun hd => ?_) (fun hd => ?_)
      · have wz : IntKind.i64.wrap (z + 1) = z + 1 := IntWalk.i64_in _ (by omega)
        simp only [wk, wt, wl, ↓reduceIte, Nat.reduceEqDiff, Nat.reduceAdd, Nat.zero_add, not_false_eq_true, not_true_eq_false, t2, t3, t4, t5, t12, t13, t17, t18, t19, pt]
        refine adraw_order [(0, false), (1, false), (2, false), (3, false), (4, false), (5, false), (6, false), (7, false), (8, true), (9, false)] mixed (by kernel_rfl) (by kernel_rfl) (by kernel_rfl) (by with_reducible repeat (first | exact PF_retK | refine PF_thenK ?_ | refine PF_blockK ?_)) ?_
        simp only [wk, wt, wl, ↓reduceIte, Nat.reduceEqDiff, Nat.reduceAdd, Nat.zero_add, not_false_eq_true, not_true_eq_false, dK_t, t13, t18, t19, pt, w1, w3, g1]
        refine (blankD_ok (a := 1)).use ?_
        rintro _ h7 ⟨tv7, rfl, R7, _, K7⟩
        have D7 := D6.keeps K7
        simp only [wk, wt, wl, ↓reduceIte, Nat.reduceEqDiff, Nat.reduceAdd, Nat.zero_add, not_false_eq_true, not_true_eq_false, dK_t, t13, t18, t19, pt]
        refine ⟨K7.reads (Ch.wf C6), ?_⟩
        refine (set_ok (c := bl 1) D7.S R7).use ?_
        rintro _ h8 ⟨S8, C8⟩
        simp only [wk, wt, wl, ↓reduceIte, Nat.reduceEqDiff, Nat.reduceAdd, Nat.zero_add, not_false_eq_true, not_true_eq_false, t2, t3, t4, t5, t12, t13, t17, t18, t19, pt, wz, intOf_int]
        exact ⟨⟨(C6.thenR K7.rg).thenR C8, z + 1, _, rfl, by omega, D7.to S8 setM_len (setM_tx D7.T (by simp [bl])) C8⟩, by omega⟩
      · have V6 := V4'.chF hfs D6.C
        obtain ⟨IX, _, _, _, _, LS⟩ := V6.at hqk
        simp only [wk, wt, wl, ↓reduceIte, Nat.reduceEqDiff, Nat.reduceAdd, Nat.zero_add, not_false_eq_true, not_true_eq_false, t2, t3, t4, t5, t12, t13, t17, t18, t19, pt]
        refine adraw_order [(0, false), (1, false), (2, false), (3, false), (4, false), (5, false), (6, false), (7, false), (8, false), (9, false), (10, false), (11, false), (12, false), (13, false), (14, false), (15, false), (16, false), (17, false), (18, false), (19, false)] mixed (by kernel_rfl) (by kernel_rfl) (by kernel_rfl) (by with_reducible repeat (first | exact PF_retK | refine PF_thenK ?_ | refine PF_blockK ?_)) ?_
        simp only [wk, wt, wl, ↓reduceIte, Nat.reduceEqDiff, Nat.reduceAdd, Nat.zero_add, not_false_eq_true, not_true_eq_false, dK_t, t2, t13, t17, t18, pt, w1, w2, w3, w4, IX, LS]
        refine (refRow_ok D6.S (V6.2 q (List.mem_of_getElem? hqk)).2.2 (O q (List.mem_of_getElem? hqk)).st D6.T).use ?_
        rintro _ h8 ⟨l8, S8, hl8, T8, C8⟩
        simp only [wk, wt, wl, ↓reduceIte, Nat.reduceEqDiff, Nat.reduceAdd, Nat.zero_add, not_false_eq_true, not_true_eq_false, dK_t, t2, t3, t4, t5, t12, t13, t17, pt, wk1, intOf_int]
        exact ⟨⟨k + 1, l8, rfl, by omega, D6.to S8 hl8 T8 C8⟩, by omega⟩
    have d1 := decide_eq_true c1
    obtain ⟨q, hqk⟩ : ∃ q, qs[k]? = some q := ⟨_, List.getElem?_eq_getElem (by omega)⟩
    have wk1 : IntKind.i64.wrap ((k : Int) + 1) = ((k + 1 : Nat) : Int) := by rw [IntWalk.i64_in _ (by omega)]; omega
    simp only [wk, wt, wl, ↓reduceIte, Nat.reduceEqDiff, Nat.reduceAdd, Nat.zero_add, not_false_eq_true, not_true_eq_false, t2, t3, t4, t5, t12, t13, t15, LV, d1]
    refine W_loop (fun tm hh => (tm 2 = v ∧ tm 3 = tv ∧ tm 4 = .int .i64 y ∧ tm 5 = .int .i64 x ∧ tm 12 = pt h.size ∧ tm 13 = pt gb ∧ tm 15 = .int .i64 (k : Int)) ∧ ∃ (j : Nat) (l : List Cel), tm 16 = .int .i64 (j : Int) ∧ j ≤ q.rs.length ∧ DG h4 hh gb kb f R C l0 l) (fun tm _ => (q.rs.length - intOf (tm 16)).toNat) ⟨⟨(by first | rfl | (simp only [wk, wt, wl, ↓reduceIte, Nat.reduceEqDiff, Nat.reduceAdd, Nat.zero_add, not_false_eq_true, not_true_eq_false]; done) | (simp only [wk, wt, wl, ↓reduceIte, Nat.reduceEqDiff, Nat.reduceAdd, Nat.zero_add, not_false_eq_true, not_true_eq_false]; rfl) | (simp only [wk, wt, wl, ↓reduceIte, Nat.reduceEqDiff, Nat.reduceAdd, Nat.zero_add, not_false_eq_true, not_true_eq_false, t2]; done) | (simp only [wk, wt, wl, ↓reduceIte, Nat.reduceEqDiff, Nat.reduceAdd, Nat.zero_add, not_false_eq_true, not_true_eq_false, t2]; rfl)), (by first | rfl | (simp only [wk, wt, wl, ↓reduceIte, Nat.reduceEqDiff, Nat.reduceAdd, Nat.zero_add, not_false_eq_true, not_true_eq_false]; done) | (simp only [wk, wt, wl, ↓reduceIte, Nat.reduceEqDiff, Nat.reduceAdd, Nat.zero_add, not_false_eq_true, not_true_eq_false]; rfl) | (simp only [wk, wt, wl, ↓reduceIte, Nat.reduceEqDiff, Nat.reduceAdd, Nat.zero_add, not_false_eq_true, not_true_eq_false, t3]; done) | (simp only [wk, wt, wl, ↓reduceIte, Nat.reduceEqDiff, Nat.reduceAdd, Nat.zero_add, not_false_eq_true, not_true_eq_false, t3]; rfl)), (by first | rfl | (simp only [wk, wt, wl, ↓reduceIte, Nat.reduceEqDiff, Nat.reduceAdd, Nat.zero_add, not_false_eq_true, not_true_eq_false]; done) | (simp only [wk, wt, wl, ↓reduceIte, Nat.reduceEqDiff, Nat.reduceAdd, Nat.zero_add, not_false_eq_true, not_true_eq_false]; rfl) | (simp only [wk, wt, wl, ↓reduceIte, Nat.reduceEqDiff, Nat.reduceAdd, Nat.zero_add, not_false_eq_true, not_true_eq_false, t4]; done) | (simp only [wk, wt, wl, ↓reduceIte, Nat.reduceEqDiff, Nat.reduceAdd, Nat.zero_add, not_false_eq_true, not_true_eq_false, t4]; rfl)), (by first | rfl | (simp only [wk, wt, wl, ↓reduceIte, Nat.reduceEqDiff, Nat.reduceAdd, Nat.zero_add, not_false_eq_true, not_true_eq_false]; done) | (simp only [wk, wt, wl, ↓reduceIte, Nat.reduceEqDiff, Nat.reduceAdd, Nat.zero_add, not_false_eq_true, not_true_eq_false]; rfl) | (simp only [wk, wt, wl, ↓reduceIte, Nat.reduceEqDiff, Nat.reduceAdd, Nat.zero_add, not_false_eq_true, not_true_eq_false, t5]; done) | (simp only [wk, wt, wl, ↓reduceIte, Nat.reduceEqDiff, Nat.reduceAdd, Nat.zero_add, not_false_eq_true, not_true_eq_false, t5]; rfl)), (by first | rfl | (simp only [wk, wt, wl, ↓reduceIte, Nat.reduceEqDiff, Nat.reduceAdd, Nat.zero_add, not_false_eq_true, not_true_eq_false]; done) | (simp only [wk, wt, wl, ↓reduceIte, Nat.reduceEqDiff, Nat.reduceAdd, Nat.zero_add, not_false_eq_true, not_true_eq_false]; rfl) | (simp only [wk, wt, wl, ↓reduceIte, Nat.reduceEqDiff, Nat.reduceAdd, Nat.zero_add, not_false_eq_true, not_true_eq_false, t12]; done) | (simp only [wk, wt, wl, ↓reduceIte, Nat.reduceEqDiff, Nat.reduceAdd, Nat.zero_add, not_false_eq_true, not_true_eq_false, t12]; rfl)), (by first | rfl | (simp only [wk, wt, wl, ↓reduceIte, Nat.reduceEqDiff, Nat.reduceAdd, Nat.zero_add, not_false_eq_true, not_true_eq_false]; done) | (simp only [wk, wt, wl, ↓reduceIte, Nat.reduceEqDiff, Nat.reduceAdd, Nat.zero_add, not_false_eq_true, not_true_eq_false]; rfl) | (simp only [wk, wt, wl, ↓reduceIte, Nat.reduceEqDiff, Nat.reduceAdd, Nat.zero_add, not_false_eq_true, not_true_eq_false, t13]; done) | (simp only [wk, wt, wl, ↓reduceIte, Nat.reduceEqDiff, Nat.reduceAdd, Nat.zero_add, not_false_eq_true, not_true_eq_false, t13]; rfl)), (by first | rfl | (simp only [wk, wt, wl, ↓reduceIte, Nat.reduceEqDiff, Nat.reduceAdd, Nat.zero_add, not_false_eq_true, not_true_eq_false]; done) | (simp only [wk, wt, wl, ↓reduceIte, Nat.reduceEqDiff, Nat.reduceAdd, Nat.zero_add, not_false_eq_true, not_true_eq_false]; rfl) | (simp only [wk, wt, wl, ↓reduceIte, Nat.reduceEqDiff, Nat.reduceAdd, Nat.zero_add, not_false_eq_true, not_true_eq_false, t15]; done) | (simp only [wk, wt, wl, ↓reduceIte, Nat.reduceEqDiff, Nat.reduceAdd, Nat.zero_add, not_false_eq_true, not_true_eq_false, t15]; rfl))⟩, 0, l, (by first | rfl | (simp only [wk, wt, wl, ↓reduceIte, Nat.reduceEqDiff, Nat.reduceAdd, Nat.zero_add, not_false_eq_true, not_true_eq_false]; done) | (simp only [wk, wt, wl, ↓reduceIte, Nat.reduceEqDiff, Nat.reduceAdd, Nat.zero_add, not_false_eq_true, not_true_eq_false]; rfl)), by omega, D⟩ ?_
    clear t2 t3 t4 t5 t12 t13 t15 VV LV D
    rintro tm hh ⟨⟨t2, t3, t4, t5, t12, t13, t15⟩, j, l, t16, hj, D⟩
    have VV := V4'.chF hfs D.C
    obtain ⟨IX, LP, _, L3, L6, _⟩ := VV.at hqk
    have hmem := List.mem_of_getElem? hqk
    have LR := (VV.2 q hmem).2.1.len underlying51
    by_cases c3 : (j : Int) < (q.rs.length : Int)
    case neg =>
      have d3 := decide_eq_false c3
      simp only [wk, wt, wl, ↓reduceIte, Nat.reduceEqDiff, Nat.reduceAdd, Nat.zero_add, not_false_eq_true, not_true_eq_false, t2, t3, t4, t5, t12, t13, t15, t16, pt, IX, L3, L6, LR, d3, Nat.add_zero, wk1, intOf_int]
      exact ⟨⟨k + 1, l, rfl, by omega, D⟩, by omega⟩
    have d3 := decide_eq_true c3
    by_cases c4 : (j : Int) < q.rows
    case neg =>
      have d4 := decide_eq_false c4
      simp only [wk, wt, wl, ↓reduceIte, Nat.reduceEqDiff, Nat.reduceAdd, Nat.zero_add, not_false_eq_true, not_true_eq_false, t2, t3, t4, t5, t12, t13, t15, t16, pt, IX, L3, L6, LR, d3, d4, Nat.add_zero, wk1, intOf_int]
      exact ⟨⟨k + 1, l, rfl, by omega, D⟩, by omega⟩
    have d4 := decide_eq_true c4
    have wj1 : IntKind.i64.wrap ((j : Int) + 1) = ((j + 1 : Nat) : Int) := by have := (O q hmem).rl; rw [IntWalk.i64_in _ (by omega)]; omega
    simp only [wk, wt, wl, ↓reduceIte, Nat.reduceEqDiff, Nat.reduceAdd, Nat.zero_add, not_false_eq_true, not_true_eq_false, t2, t3, t4, t5, t12, t13, t15, t16, pt, IX, L3, L6, LR, d3, d4, Nat.add_zero, LP]
    refine (one_ok D.S D.T (VV.2 q hmem) (O q hmem) (by omega)).use ?_
    rintro _ h8 ⟨l8, S8, hl8, T8, C8⟩
    simp only [wk, wt, wl, ↓reduceIte, Nat.reduceEqDiff, Nat.reduceAdd, Nat.zero_add, not_false_eq_true, not_true_eq_false, t2, t3, t4, t5, t12, t13, t15, t16, pt, wj1, intOf_int]
    exact ⟨⟨j + 1, l8, rfl, by omega, D.to S8 hl8 T8 C8⟩, by omega⟩
  · have d1 := decide_eq_false c2
    -- the panes' rows
    simp only [wk, wt, wl, ↓reduceIte, Nat.reduceEqDiff, Nat.reduceAdd, Nat.zero_add, not_false_eq_true, not_true_eq_false, t2, t3, t4, t5, t12, t13, t14, pt, g1, g2, CF.len, LV, w0, d1]
    refine W_loop (fun tm hh => (tm 2 = v ∧ tm 3 = tv ∧ tm 4 = .int .i64 y ∧ tm 5 = .int .i64 x ∧ tm 12 = pt h.size ∧ tm 13 = pt gb) ∧ ∃ (k : Nat) (l : List Cel), tm 15 = .int .i64 (k : Int) ∧ k ≤ qs.length ∧ DG h4 hh gb kb f R C l0 l) (fun tm _ => (qs.length - intOf (tm 15)).toNat) ⟨⟨(by first | rfl | (simp only [wk, wt, wl, ↓reduceIte, Nat.reduceEqDiff, Nat.reduceAdd, Nat.zero_add, not_false_eq_true, not_true_eq_false]; done) | (simp only [wk, wt, wl, ↓reduceIte, Nat.reduceEqDiff, Nat.reduceAdd, Nat.zero_add, not_false_eq_true, not_true_eq_false]; rfl) | (simp only [wk, wt, wl, ↓reduceIte, Nat.reduceEqDiff, Nat.reduceAdd, Nat.zero_add, not_false_eq_true, not_true_eq_false, t2]; done) | (simp only [wk, wt, wl, ↓reduceIte, Nat.reduceEqDiff, Nat.reduceAdd, Nat.zero_add, not_false_eq_true, not_true_eq_false, t2]; rfl)), (by first | rfl | (simp only [wk, wt, wl, ↓reduceIte, Nat.reduceEqDiff, Nat.reduceAdd, Nat.zero_add, not_false_eq_true, not_true_eq_false]; done) | (simp only [wk, wt, wl, ↓reduceIte, Nat.reduceEqDiff, Nat.reduceAdd, Nat.zero_add, not_false_eq_true, not_true_eq_false]; rfl) | (simp only [wk, wt, wl, ↓reduceIte, Nat.reduceEqDiff, Nat.reduceAdd, Nat.zero_add, not_false_eq_true, not_true_eq_false, t3]; done) | (simp only [wk, wt, wl, ↓reduceIte, Nat.reduceEqDiff, Nat.reduceAdd, Nat.zero_add, not_false_eq_true, not_true_eq_false, t3]; rfl)), (by first | rfl | (simp only [wk, wt, wl, ↓reduceIte, Nat.reduceEqDiff, Nat.reduceAdd, Nat.zero_add, not_false_eq_true, not_true_eq_false]; done) | (simp only [wk, wt, wl, ↓reduceIte, Nat.reduceEqDiff, Nat.reduceAdd, Nat.zero_add, not_false_eq_true, not_true_eq_false]; rfl) | (simp only [wk, wt, wl, ↓reduceIte, Nat.reduceEqDiff, Nat.reduceAdd, Nat.zero_add, not_false_eq_true, not_true_eq_false, t4]; done) | (simp only [wk, wt, wl, ↓reduceIte, Nat.reduceEqDiff, Nat.reduceAdd, Nat.zero_add, not_false_eq_true, not_true_eq_false, t4]; rfl)), (by first | rfl | (simp only [wk, wt, wl, ↓reduceIte, Nat.reduceEqDiff, Nat.reduceAdd, Nat.zero_add, not_false_eq_true, not_true_eq_false]; done) | (simp only [wk, wt, wl, ↓reduceIte, Nat.reduceEqDiff, Nat.reduceAdd, Nat.zero_add, not_false_eq_true, not_true_eq_false]; rfl) | (simp only [wk, wt, wl, ↓reduceIte, Nat.reduceEqDiff, Nat.reduceAdd, Nat.zero_add, not_false_eq_true, not_true_eq_false, t5]; done) | (simp only [wk, wt, wl, ↓reduceIte, Nat.reduceEqDiff, Nat.reduceAdd, Nat.zero_add, not_false_eq_true, not_true_eq_false, t5]; rfl)), (by first | rfl | (simp only [wk, wt, wl, ↓reduceIte, Nat.reduceEqDiff, Nat.reduceAdd, Nat.zero_add, not_false_eq_true, not_true_eq_false]; done) | (simp only [wk, wt, wl, ↓reduceIte, Nat.reduceEqDiff, Nat.reduceAdd, Nat.zero_add, not_false_eq_true, not_true_eq_false]; rfl) | (simp only [wk, wt, wl, ↓reduceIte, Nat.reduceEqDiff, Nat.reduceAdd, Nat.zero_add, not_false_eq_true, not_true_eq_false, t12]; done) | (simp only [wk, wt, wl, ↓reduceIte, Nat.reduceEqDiff, Nat.reduceAdd, Nat.zero_add, not_false_eq_true, not_true_eq_false, t12]; rfl)), (by first | rfl | (simp only [wk, wt, wl, ↓reduceIte, Nat.reduceEqDiff, Nat.reduceAdd, Nat.zero_add, not_false_eq_true, not_true_eq_false]; done) | (simp only [wk, wt, wl, ↓reduceIte, Nat.reduceEqDiff, Nat.reduceAdd, Nat.zero_add, not_false_eq_true, not_true_eq_false]; rfl) | (simp only [wk, wt, wl, ↓reduceIte, Nat.reduceEqDiff, Nat.reduceAdd, Nat.zero_add, not_false_eq_true, not_true_eq_false, t13]; done) | (simp only [wk, wt, wl, ↓reduceIte, Nat.reduceEqDiff, Nat.reduceAdd, Nat.zero_add, not_false_eq_true, not_true_eq_false, t13]; rfl))⟩, 0, l, (by first | rfl | (simp only [wk, wt, wl, ↓reduceIte, Nat.reduceEqDiff, Nat.reduceAdd, Nat.zero_add, not_false_eq_true, not_true_eq_false]; done) | (simp only [wk, wt, wl, ↓reduceIte, Nat.reduceEqDiff, Nat.reduceAdd, Nat.zero_add, not_false_eq_true, not_true_eq_false]; rfl)), by omega, D⟩ ?_
    clear t2 t3 t4 t5 t12 t13 t14 g0 g1 g2 VV LV w0 hDl
    rintro tm hh ⟨⟨t2, t3, t4, t5, t12, t13⟩, k, l, t15, hk, D⟩
    have VV := V4'.chF hfs D.C
    have LV := VV.1.len underlying22
    by_cases c1 : (k : Int) < (qs.length : Int)
    case neg =>
      have d1 := decide_eq_false c1
      simp only [wk, wt, wl, ↓reduceIte, Nat.reduceEqDiff, Nat.reduceAdd, Nat.zero_add, not_false_eq_true, not_true_eq_false, t2, t3, t4, t5, t12, t13, t15, LV, d1]
      -- the status rows
      refine W_loop (fun tm hh => (tm 2 = v ∧ tm 3 = tv ∧ tm 4 = .int .i64 y ∧ tm 5 = .int .i64 x ∧ tm 12 = pt h.size ∧ tm 13 = pt gb) ∧ ∃ (k : Nat) (l : List Cel), tm 17 = .int .i64 (k : Int) ∧ k ≤ qs.length ∧ DG h4 hh gb kb f R C l0 l) (fun tm _ => (qs.length - intOf (tm 17)).toNat) ⟨⟨(by first | rfl | (simp only [wk, wt, wl, ↓reduceIte, Nat.reduceEqDiff, Nat.reduceAdd, Nat.zero_add, not_false_eq_true, not_true_eq_false]; done) | (simp only [wk, wt, wl, ↓reduceIte, Nat.reduceEqDiff, Nat.reduceAdd, Nat.zero_add, not_false_eq_true, not_true_eq_false]; rfl) | (simp only [wk, wt, wl, ↓reduceIte, Nat.reduceEqDiff, Nat.reduceAdd, Nat.zero_add, not_false_eq_true, not_true_eq_false, t2]; done) | (simp only [wk, wt, wl, ↓reduceIte, Nat.reduceEqDiff, Nat.reduceAdd, Nat.zero_add, not_false_eq_true, not_true_eq_false, t2]; rfl)), (by first | rfl | (simp only [wk, wt, wl, ↓reduceIte, Nat.reduceEqDiff, Nat.reduceAdd, Nat.zero_add, not_false_eq_true, not_true_eq_false]; done) | (simp only [wk, wt, wl, ↓reduceIte, Nat.reduceEqDiff, Nat.reduceAdd, Nat.zero_add, not_false_eq_true, not_true_eq_false]; rfl) | (simp only [wk, wt, wl, ↓reduceIte, Nat.reduceEqDiff, Nat.reduceAdd, Nat.zero_add, not_false_eq_true, not_true_eq_false, t3]; done) | (simp only [wk, wt, wl, ↓reduceIte, Nat.reduceEqDiff, Nat.reduceAdd, Nat.zero_add, not_false_eq_true, not_true_eq_false, t3]; rfl)), (by first | rfl | (simp only [wk, wt, wl, ↓reduceIte, Nat.reduceEqDiff, Nat.reduceAdd, Nat.zero_add, not_false_eq_true, not_true_eq_false]; done) | (simp only [wk, wt, wl, ↓reduceIte, Nat.reduceEqDiff, Nat.reduceAdd, Nat.zero_add, not_false_eq_true, not_true_eq_false]; rfl) | (simp only [wk, wt, wl, ↓reduceIte, Nat.reduceEqDiff, Nat.reduceAdd, Nat.zero_add, not_false_eq_true, not_true_eq_false, t4]; done) | (simp only [wk, wt, wl, ↓reduceIte, Nat.reduceEqDiff, Nat.reduceAdd, Nat.zero_add, not_false_eq_true, not_true_eq_false, t4]; rfl)), (by first | rfl | (simp only [wk, wt, wl, ↓reduceIte, Nat.reduceEqDiff, Nat.reduceAdd, Nat.zero_add, not_false_eq_true, not_true_eq_false]; done) | (simp only [wk, wt, wl, ↓reduceIte, Nat.reduceEqDiff, Nat.reduceAdd, Nat.zero_add, not_false_eq_true, not_true_eq_false]; rfl) | (simp only [wk, wt, wl, ↓reduceIte, Nat.reduceEqDiff, Nat.reduceAdd, Nat.zero_add, not_false_eq_true, not_true_eq_false, t5]; done) | (simp only [wk, wt, wl, ↓reduceIte, Nat.reduceEqDiff, Nat.reduceAdd, Nat.zero_add, not_false_eq_true, not_true_eq_false, t5]; rfl)), (by first | rfl | (simp only [wk, wt, wl, ↓reduceIte, Nat.reduceEqDiff, Nat.reduceAdd, Nat.zero_add, not_false_eq_true, not_true_eq_false]; done) | (simp only [wk, wt, wl, ↓reduceIte, Nat.reduceEqDiff, Nat.reduceAdd, Nat.zero_add, not_false_eq_true, not_true_eq_false]; rfl) | (simp only [wk, wt, wl, ↓reduceIte, Nat.reduceEqDiff, Nat.reduceAdd, Nat.zero_add, not_false_eq_true, not_true_eq_false, t12]; done) | (simp only [wk, wt, wl, ↓reduceIte, Nat.reduceEqDiff, Nat.reduceAdd, Nat.zero_add, not_false_eq_true, not_true_eq_false, t12]; rfl)), (by first | rfl | (simp only [wk, wt, wl, ↓reduceIte, Nat.reduceEqDiff, Nat.reduceAdd, Nat.zero_add, not_false_eq_true, not_true_eq_false]; done) | (simp only [wk, wt, wl, ↓reduceIte, Nat.reduceEqDiff, Nat.reduceAdd, Nat.zero_add, not_false_eq_true, not_true_eq_false]; rfl) | (simp only [wk, wt, wl, ↓reduceIte, Nat.reduceEqDiff, Nat.reduceAdd, Nat.zero_add, not_false_eq_true, not_true_eq_false, t13]; done) | (simp only [wk, wt, wl, ↓reduceIte, Nat.reduceEqDiff, Nat.reduceAdd, Nat.zero_add, not_false_eq_true, not_true_eq_false, t13]; rfl))⟩, 0, l, (by first | rfl | (simp only [wk, wt, wl, ↓reduceIte, Nat.reduceEqDiff, Nat.reduceAdd, Nat.zero_add, not_false_eq_true, not_true_eq_false]; done) | (simp only [wk, wt, wl, ↓reduceIte, Nat.reduceEqDiff, Nat.reduceAdd, Nat.zero_add, not_false_eq_true, not_true_eq_false]; rfl)), by omega, D⟩ ?_
      clear t2 t3 t4 t5 t12 t13 t15 VV LV D
      rintro tm hh ⟨⟨t2, t3, t4, t5, t12, t13⟩, k, l, t17, hk, D⟩
      have VV := V4'.chF hfs D.C
      have LV := VV.1.len underlying22
      by_cases c1 : (k : Int) < (qs.length : Int)
      case neg =>
        have d1 := decide_eq_false c1
        simp only [wk, wt, wl, ↓reduceIte, Nat.reduceEqDiff, Nat.reduceAdd, Nat.zero_add, not_false_eq_true, not_true_eq_false, t2, t3, t4, t5, t12, t13, t17, LV, d1]
        -- the message
        obtain ⟨g0, g1, g2⟩ := D.S.loads
        have wR : IntKind.i64.wrap (R - 1) = R - 1 := IntWalk.i64_in _ (by omega)
        have wC : IntKind.i64.wrap (C - 1) = C - 1 := IntWalk.i64_in _ (by omega)
        simp only [wk, wt, wl, ↓reduceIte, Nat.reduceEqDiff, Nat.reduceAdd, Nat.zero_add, not_false_eq_true, not_true_eq_false, t2, t3, t4, t5, t12, t13, pt, g0, g1, wR]
        refine (refRow_ok D.S (Rd.chF X4 hfs D.C (by decide)) hmsg D.T).use ?_
        rintro _ hz ⟨lz, Sz, hlz, Tz, Cz⟩
        have Dz := D.to Sz hlz Tz Cz
        obtain ⟨g0, g1, g2⟩ := Dz.S.loads
        have Hz := Ch.wf Dz.C
        have Uz := U4.ch H4 Dz.C (U4.1.offF (U4.ne hfs asz29 (by decide)))
        have hgh : gb ≠ h.size := by omega
        obtain ⟨ha, ea, Va, Ca, za⟩ := Dz.S.V.store1 Hz (t := 3) (v := .int .i64 (imax 0 (imin y (R - 1)))) (i := 3) asz3 (by simp) rfl
        simp only [List.set_cons_succ, List.set_cons_zero] at Va
        obtain ⟨hb, eb, Vb, Cb, zb⟩ := Va.store1 (Ch.wf Ca) (t := 3) (v := .int .i64 (imax 0 (imin x (C - 1)))) (i := 4) asz3 (by simp) rfl
        simp only [List.set_cons_succ, List.set_cons_zero] at Vb
        have Lb := Vb.1.loadA (P := prog) (t := 29) underlying29 rfl asz29
        have Ub := (Uz.ch Hz Ca (fun e => hgh e.symm)).ch (Ch.wf Ca) Cb (fun e => hgh e.symm)
        have la1 : aload prog ha 3 ⟨gb, 1, none⟩ = some (.int .i64 C) := Va.1.load1 (P := prog) (t := 3) underlying3 rfl (i := 1)
        obtain ⟨hc, ec, Uc, Cc, zc⟩ := Ub.store (Ch.wf Cb) (t := 29) (v := .agg #[.int .i64 R, .int .i64 C, cvF kb lz.length, .int .i64 (imax 0 (imin y (R - 1))), .int .i64 (imax 0 (imin x (C - 1)))]) (i := 0) asz29 (by simp [Value.cells, cvF]) (by simp [Value.cells, one, cvF])
        have ovc : over zG 0 (Value.agg #[.int .i64 R, .int .i64 C, cvF kb lz.length, .int .i64 (imax 0 (imin y (R - 1))), .int .i64 (imax 0 (imin x (C - 1)))]).cells.toList = [.int .i64 R, .int .i64 C, cvF kb lz.length, .int .i64 (imax 0 (imin y (R - 1))), .int .i64 (imax 0 (imin x (C - 1)))] := by rw [over_all (by simp [Value.cells, cvF])]; simp [Value.cells, cvF]
        rw [ovc] at Uc
        have Lc := Uc.1.loadA (P := prog) (t := 29) underlying29 rfl asz29
        have Gz := Dz.S.G
        have Ga := Gz.ch Hz Ca (fun b e => by obtain rfl : b = gb := e; exact ⟨_, _, 5, Dz.S.V, asz29, by decide, by decide⟩)
        have Gb := Ga.ch (Ch.wf Ca) Cb (fun b e => by obtain rfl : b = gb := e; exact ⟨_, _, 5, Va, asz29, by decide, by decide⟩)
        have Gc := Gb.ch (Ch.wf Cb) Cc (fun b e => by obtain rfl : b = h.size := e; exact ⟨_, _, 5, Ub, asz29, by decide, by decide⟩)
        have KF : Keeps h hc := (((K04.step Dz.C fun b ⟨k, g, e⟩ => by have := H4.2 b k g; have : k.fam = f := e; omega).step Ca fun b e => by omega).step Cb fun b e => by omega).step Cc fun b e => by omega
        simp only [wk, wt, wl, ↓reduceIte, Nat.reduceEqDiff, Nat.reduceAdd, Nat.zero_add, not_false_eq_true, not_true_eq_false, t2, t3, t4, t5, t12, t13, pt, mxV, mnV, g0, g1, wR, ea, la1, wC, eb, Lb, ec, Lc]
        exact ⟨⟨R, C, lz, imax 0 (imin y (R - 1)), imax 0 (imin x (C - 1))⟩, kb, rfl, Gc.gr (Ch.wf Cc), Tz, by have := Dz.S.len; exact this, KF⟩
      have d1 := decide_eq_true c1
      by_cases c2 : 1 < (qs.length : Int)
      case neg =>
        have d2 := decide_eq_false c2
        simp only [wk, wt, wl, ↓reduceIte, Nat.reduceEqDiff, Nat.reduceAdd, Nat.zero_add, not_false_eq_true, not_true_eq_false, t2, t3, t4, t5, t12, t13, t17, LV, d1, d2]
        -- the message
        obtain ⟨g0, g1, g2⟩ := D.S.loads
        have wR : IntKind.i64.wrap (R - 1) = R - 1 := IntWalk.i64_in _ (by omega)
        have wC : IntKind.i64.wrap (C - 1) = C - 1 := IntWalk.i64_in _ (by omega)
        simp only [wk, wt, wl, ↓reduceIte, Nat.reduceEqDiff, Nat.reduceAdd, Nat.zero_add, not_false_eq_true, not_true_eq_false, t2, t3, t4, t5, t12, t13, pt, g0, g1, wR]
        refine (refRow_ok D.S (Rd.chF X4 hfs D.C (by decide)) hmsg D.T).use ?_
        rintro _ hz ⟨lz, Sz, hlz, Tz, Cz⟩
        have Dz := D.to Sz hlz Tz Cz
        obtain ⟨g0, g1, g2⟩ := Dz.S.loads
        have Hz := Ch.wf Dz.C
        have Uz := U4.ch H4 Dz.C (U4.1.offF (U4.ne hfs asz29 (by decide)))
        have hgh : gb ≠ h.size := by omega
        obtain ⟨ha, ea, Va, Ca, za⟩ := Dz.S.V.store1 Hz (t := 3) (v := .int .i64 (imax 0 (imin y (R - 1)))) (i := 3) asz3 (by simp) rfl
        simp only [List.set_cons_succ, List.set_cons_zero] at Va
        obtain ⟨hb, eb, Vb, Cb, zb⟩ := Va.store1 (Ch.wf Ca) (t := 3) (v := .int .i64 (imax 0 (imin x (C - 1)))) (i := 4) asz3 (by simp) rfl
        simp only [List.set_cons_succ, List.set_cons_zero] at Vb
        have Lb := Vb.1.loadA (P := prog) (t := 29) underlying29 rfl asz29
        have Ub := (Uz.ch Hz Ca (fun e => hgh e.symm)).ch (Ch.wf Ca) Cb (fun e => hgh e.symm)
        have la1 : aload prog ha 3 ⟨gb, 1, none⟩ = some (.int .i64 C) := Va.1.load1 (P := prog) (t := 3) underlying3 rfl (i := 1)
        obtain ⟨hc, ec, Uc, Cc, zc⟩ := Ub.store (Ch.wf Cb) (t := 29) (v := .agg #[.int .i64 R, .int .i64 C, cvF kb lz.length, .int .i64 (imax 0 (imin y (R - 1))), .int .i64 (imax 0 (imin x (C - 1)))]) (i := 0) asz29 (by simp [Value.cells, cvF]) (by simp [Value.cells, one, cvF])
        have ovc : over zG 0 (Value.agg #[.int .i64 R, .int .i64 C, cvF kb lz.length, .int .i64 (imax 0 (imin y (R - 1))), .int .i64 (imax 0 (imin x (C - 1)))]).cells.toList = [.int .i64 R, .int .i64 C, cvF kb lz.length, .int .i64 (imax 0 (imin y (R - 1))), .int .i64 (imax 0 (imin x (C - 1)))] := by rw [over_all (by simp [Value.cells, cvF])]; simp [Value.cells, cvF]
        rw [ovc] at Uc
        have Lc := Uc.1.loadA (P := prog) (t := 29) underlying29 rfl asz29
        have Gz := Dz.S.G
        have Ga := Gz.ch Hz Ca (fun b e => by obtain rfl : b = gb := e; exact ⟨_, _, 5, Dz.S.V, asz29, by decide, by decide⟩)
        have Gb := Ga.ch (Ch.wf Ca) Cb (fun b e => by obtain rfl : b = gb := e; exact ⟨_, _, 5, Va, asz29, by decide, by decide⟩)
        have Gc := Gb.ch (Ch.wf Cb) Cc (fun b e => by obtain rfl : b = h.size := e; exact ⟨_, _, 5, Ub, asz29, by decide, by decide⟩)
        have KF : Keeps h hc := (((K04.step Dz.C fun b ⟨k, g, e⟩ => by have := H4.2 b k g; have : k.fam = f := e; omega).step Ca fun b e => by omega).step Cb fun b e => by omega).step Cc fun b e => by omega
        simp only [wk, wt, wl, ↓reduceIte, Nat.reduceEqDiff, Nat.reduceAdd, Nat.zero_add, not_false_eq_true, not_true_eq_false, t2, t3, t4, t5, t12, t13, pt, mxV, mnV, g0, g1, wR, ea, la1, wC, eb, Lb, ec, Lc]
        exact ⟨⟨R, C, lz, imax 0 (imin y (R - 1)), imax 0 (imin x (C - 1))⟩, kb, rfl, Gc.gr (Ch.wf Cc), Tz, by have := Dz.S.len; exact this, KF⟩
      have d2 := decide_eq_true c2
      obtain ⟨q, hqk⟩ : ∃ q, qs[k]? = some q := ⟨_, List.getElem?_eq_getElem (by omega)⟩
      obtain ⟨IX, _, LW, _, _, _⟩ := VV.at hqk
      obtain ⟨h5, e5, W5, K5, z5'⟩ := win_var (q := q) (Ch.wf D.C)
      obtain ⟨w1, w2, w3, w4⟩ := wn_load W5
      have D5 := D.keeps K5
      have h4le := Ch.le D.C
      have wk1 : IntKind.i64.wrap ((k : Int) + 1) = ((k + 1 : Nat) : Int) := by rw [IntWalk.i64_in _ (by omega)]; omega
      simp only [wk, wt, wl, ↓reduceIte, Nat.reduceEqDiff, Nat.reduceAdd, Nat.zero_add, not_false_eq_true, not_true_eq_false, t2, t3, t4, t5, t12, t13, t17, LV, d1, d2, IX, LW, newWin, e5, w2, mxV]
      have M0 := imax_spec 0 q.left
      refine W_loop (fun tm h6 => (tm 2 = v ∧ tm 3 = tv ∧ tm 4 = .int .i64 y ∧ tm 5 = .int .i64 x ∧ tm 12 = pt h.size ∧ tm 13 = pt gb ∧ tm 17 = .int .i64 (k : Int) ∧ tm 18 = pt hh.size) ∧ Ch (FR f h5) h5 h6 ∧ ∃ (z : Int) (l : List Cel), tm 19 = .int .i64 z ∧ 0 ≤ z ∧ DG h4 h6 gb kb f R C l0 l) (fun tm _ => (C - intOf (tm 19)).toNat) ⟨⟨(by first | rfl | (simp only [wk, wt, wl, ↓reduceIte, Nat.reduceEqDiff, Nat.reduceAdd, Nat.zero_add, not_false_eq_true, not_true_eq_false]; done) | (simp only [wk, wt, wl, ↓reduceIte, Nat.reduceEqDiff, Nat.reduceAdd, Nat.zero_add, not_false_eq_true, not_true_eq_false]; rfl) | (simp only [wk, wt, wl, ↓reduceIte, Nat.reduceEqDiff, Nat.reduceAdd, Nat.zero_add, not_false_eq_true, not_true_eq_false, t2]; done) | (simp only [wk, wt, wl, ↓reduceIte, Nat.reduceEqDiff, Nat.reduceAdd, Nat.zero_add, not_false_eq_true, not_true_eq_false, t2]; rfl)), (by first | rfl | (simp only [wk, wt, wl, ↓reduceIte, Nat.reduceEqDiff, Nat.reduceAdd, Nat.zero_add, not_false_eq_true, not_true_eq_false]; done) | (simp only [wk, wt, wl, ↓reduceIte, Nat.reduceEqDiff, Nat.reduceAdd, Nat.zero_add, not_false_eq_true, not_true_eq_false]; rfl) | (simp only [wk, wt, wl, ↓reduceIte, Nat.reduceEqDiff, Nat.reduceAdd, Nat.zero_add, not_false_eq_true, not_true_eq_false, t3]; done) | (simp only [wk, wt, wl, ↓reduceIte, Nat.reduceEqDiff, Nat.reduceAdd, Nat.zero_add, not_false_eq_true, not_true_eq_false, t3]; rfl)), (by first | rfl | (simp only [wk, wt, wl, ↓reduceIte, Nat.reduceEqDiff, Nat.reduceAdd, Nat.zero_add, not_false_eq_true, not_true_eq_false]; done) | (simp only [wk, wt, wl, ↓reduceIte, Nat.reduceEqDiff, Nat.reduceAdd, Nat.zero_add, not_false_eq_true, not_true_eq_false]; rfl) | (simp only [wk, wt, wl, ↓reduceIte, Nat.reduceEqDiff, Nat.reduceAdd, Nat.zero_add, not_false_eq_true, not_true_eq_false, t4]; done) | (simp only [wk, wt, wl, ↓reduceIte, Nat.reduceEqDiff, Nat.reduceAdd, Nat.zero_add, not_false_eq_true, not_true_eq_false, t4]; rfl)), (by first | rfl | (simp only [wk, wt, wl, ↓reduceIte, Nat.reduceEqDiff, Nat.reduceAdd, Nat.zero_add, not_false_eq_true, not_true_eq_false]; done) | (simp only [wk, wt, wl, ↓reduceIte, Nat.reduceEqDiff, Nat.reduceAdd, Nat.zero_add, not_false_eq_true, not_true_eq_false]; rfl) | (simp only [wk, wt, wl, ↓reduceIte, Nat.reduceEqDiff, Nat.reduceAdd, Nat.zero_add, not_false_eq_true, not_true_eq_false, t5]; done) | (simp only [wk, wt, wl, ↓reduceIte, Nat.reduceEqDiff, Nat.reduceAdd, Nat.zero_add, not_false_eq_true, not_true_eq_false, t5]; rfl)), (by first | rfl | (simp only [wk, wt, wl, ↓reduceIte, Nat.reduceEqDiff, Nat.reduceAdd, Nat.zero_add, not_false_eq_true, not_true_eq_false]; done) | (simp only [wk, wt, wl, ↓reduceIte, Nat.reduceEqDiff, Nat.reduceAdd, Nat.zero_add, not_false_eq_true, not_true_eq_false]; rfl) | (simp only [wk, wt, wl, ↓reduceIte, Nat.reduceEqDiff, Nat.reduceAdd, Nat.zero_add, not_false_eq_true, not_true_eq_false, t12]; done) | (simp only [wk, wt, wl, ↓reduceIte, Nat.reduceEqDiff, Nat.reduceAdd, Nat.zero_add, not_false_eq_true, not_true_eq_false, t12]; rfl)), (by first | rfl | (simp only [wk, wt, wl, ↓reduceIte, Nat.reduceEqDiff, Nat.reduceAdd, Nat.zero_add, not_false_eq_true, not_true_eq_false]; done) | (simp only [wk, wt, wl, ↓reduceIte, Nat.reduceEqDiff, Nat.reduceAdd, Nat.zero_add, not_false_eq_true, not_true_eq_false]; rfl) | (simp only [wk, wt, wl, ↓reduceIte, Nat.reduceEqDiff, Nat.reduceAdd, Nat.zero_add, not_false_eq_true, not_true_eq_false, t13]; done) | (simp only [wk, wt, wl, ↓reduceIte, Nat.reduceEqDiff, Nat.reduceAdd, Nat.zero_add, not_false_eq_true, not_true_eq_false, t13]; rfl)), (by first | rfl | (simp only [wk, wt, wl, ↓reduceIte, Nat.reduceEqDiff, Nat.reduceAdd, Nat.zero_add, not_false_eq_true, not_true_eq_false]; done) | (simp only [wk, wt, wl, ↓reduceIte, Nat.reduceEqDiff, Nat.reduceAdd, Nat.zero_add, not_false_eq_true, not_true_eq_false]; rfl) | (simp only [wk, wt, wl, ↓reduceIte, Nat.reduceEqDiff, Nat.reduceAdd, Nat.zero_add, not_false_eq_true, not_true_eq_false, t17]; done) | (simp only [wk, wt, wl, ↓reduceIte, Nat.reduceEqDiff, Nat.reduceAdd, Nat.zero_add, not_false_eq_true, not_true_eq_false, t17]; rfl)), (by first | rfl | (simp only [wk, wt, wl, ↓reduceIte, Nat.reduceEqDiff, Nat.reduceAdd, Nat.zero_add, not_false_eq_true, not_true_eq_false]; done) | (simp only [wk, wt, wl, ↓reduceIte, Nat.reduceEqDiff, Nat.reduceAdd, Nat.zero_add, not_false_eq_true, not_true_eq_false]; rfl))⟩, (Keeps.refl (Ch.wf K5)).rg, imax 0 q.left, l, (by first | rfl | (simp only [wk, wt, wl, ↓reduceIte, Nat.reduceEqDiff, Nat.reduceAdd, Nat.zero_add, not_false_eq_true, not_true_eq_false]; done) | (simp only [wk, wt, wl, ↓reduceIte, Nat.reduceEqDiff, Nat.reduceAdd, Nat.zero_add, not_false_eq_true, not_true_eq_false]; rfl)), by omega, D5⟩ ?_
      clear t2 t3 t4 t5 t12 t13 t17
      rintro tm h6 ⟨⟨t2, t3, t4, t5, t12, t13, t17, t18⟩, C6, z, l6, t19, hz0, D6⟩
      have W6 := Var.chF (Ch.wf K5) W5 C6 (by have := hfs.1; omega)
      obtain ⟨w1, w2, w3, w4⟩ := wn_load W6
      obtain ⟨_, g1, g2⟩ := D6.S.loads
      have M2 := imin_spec C (IntKind.i64.wrap (q.left + q.cols))
      simp only [wk, wt, wl, ↓reduceIte, Nat.reduceEqDiff, Nat.reduceAdd, Nat.zero_add, not_false_eq_true, not_true_eq_false, t2, t3, t4, t5, t12, t13, t17, t18, t19, pt, g1, w2, w4, mnV]
      refine condK_dec (fun hd => ?_) (fun hd => ?_)
      · have wz : IntKind.i64.wrap (z + 1) = z + 1 := IntWalk.i64_in _ (by omega)
        simp only [wk, wt, wl, ↓reduceIte, Nat.reduceEqDiff, Nat.reduceAdd, Nat.zero_add, not_false_eq_true, not_true_eq_false, t2, t3, t4, t5, t12, t13, t17, t18, t19, pt]
        refine adraw_order [(0, false), (1, false), (2, false), (3, false), (4, false), (5, false), (6, false), (7, false), (8, true), (9, false)] mixed (by kernel_rfl) (by kernel_rfl) (by kernel_rfl) (by with_reducible repeat (first | exact PF_retK | refine PF_thenK ?_ | refine PF_blockK ?_)) ?_
        simp only [wk, wt, wl, ↓reduceIte, Nat.reduceEqDiff, Nat.reduceAdd, Nat.zero_add, not_false_eq_true, not_true_eq_false, dK_t, t13, t18, t19, pt, w1, w3, g1]
        refine (blankD_ok (a := 1)).use ?_
        rintro _ h7 ⟨tv7, rfl, R7, _, K7⟩
        have D7 := D6.keeps K7
        simp only [wk, wt, wl, ↓reduceIte, Nat.reduceEqDiff, Nat.reduceAdd, Nat.zero_add, not_false_eq_true, not_true_eq_false, dK_t, t13, t18, t19, pt]
        refine ⟨K7.reads (Ch.wf C6), ?_⟩
        refine (set_ok (c := bl 1) D7.S R7).use ?_
        rintro _ h8 ⟨S8, C8⟩
        simp only [wk, wt, wl, ↓reduceIte, Nat.reduceEqDiff, Nat.reduceAdd, Nat.zero_add, not_false_eq_true, not_true_eq_false, t2, t3, t4, t5, t12, t13, t17, t18, t19, pt, wz, intOf_int]
        exact ⟨⟨(C6.thenR K7.rg).thenR C8, z + 1, _, rfl, by omega, D7.to S8 setM_len (setM_tx D7.T (by simp [bl])) C8⟩, by omega⟩
      · have V6 := V4'.chF hfs D6.C
        obtain ⟨IX, _, _, _, _, LS⟩ := V6.at hqk
        simp only [wk, wt, wl, ↓reduceIte, Nat.reduceEqDiff, Nat.reduceAdd, Nat.zero_add, not_false_eq_true, not_true_eq_false, t2, t3, t4, t5, t12, t13, t17, t18, t19, pt]
        refine adraw_order [(0, false), (1, false), (2, false), (3, false), (4, false), (5, false), (6, false), (7, false), (8, false), (9, false), (10, false), (11, false), (12, false), (13, false), (14, false), (15, false), (16, false), (17, false), (18, false), (19, false)] mixed (by kernel_rfl) (by kernel_rfl) (by kernel_rfl) (by with_reducible repeat (first | exact PF_retK | refine PF_thenK ?_ | refine PF_blockK ?_)) ?_
        simp only [wk, wt, wl, ↓reduceIte, Nat.reduceEqDiff, Nat.reduceAdd, Nat.zero_add, not_false_eq_true, not_true_eq_false, dK_t, t2, t13, t17, t18, pt, w1, w2, w3, w4, IX, LS]
        refine (refRow_ok D6.S (V6.2 q (List.mem_of_getElem? hqk)).2.2 (O q (List.mem_of_getElem? hqk)).st D6.T).use ?_
        rintro _ h8 ⟨l8, S8, hl8, T8, C8⟩
        simp only [wk, wt, wl, ↓reduceIte, Nat.reduceEqDiff, Nat.reduceAdd, Nat.zero_add, not_false_eq_true, not_true_eq_false, dK_t, t2, t3, t4, t5, t12, t13, t17, pt, wk1, intOf_int]
        exact ⟨⟨k + 1, l8, rfl, by omega, D6.to S8 hl8 T8 C8⟩, by omega⟩
    have d1 := decide_eq_true c1
    obtain ⟨q, hqk⟩ : ∃ q, qs[k]? = some q := ⟨_, List.getElem?_eq_getElem (by omega)⟩
    have wk1 : IntKind.i64.wrap ((k : Int) + 1) = ((k + 1 : Nat) : Int) := by rw [IntWalk.i64_in _ (by omega)]; omega
    simp only [wk, wt, wl, ↓reduceIte, Nat.reduceEqDiff, Nat.reduceAdd, Nat.zero_add, not_false_eq_true, not_true_eq_false, t2, t3, t4, t5, t12, t13, t15, LV, d1]
    refine W_loop (fun tm hh => (tm 2 = v ∧ tm 3 = tv ∧ tm 4 = .int .i64 y ∧ tm 5 = .int .i64 x ∧ tm 12 = pt h.size ∧ tm 13 = pt gb ∧ tm 15 = .int .i64 (k : Int)) ∧ ∃ (j : Nat) (l : List Cel), tm 16 = .int .i64 (j : Int) ∧ j ≤ q.rs.length ∧ DG h4 hh gb kb f R C l0 l) (fun tm _ => (q.rs.length - intOf (tm 16)).toNat) ⟨⟨(by first | rfl | (simp only [wk, wt, wl, ↓reduceIte, Nat.reduceEqDiff, Nat.reduceAdd, Nat.zero_add, not_false_eq_true, not_true_eq_false]; done) | (simp only [wk, wt, wl, ↓reduceIte, Nat.reduceEqDiff, Nat.reduceAdd, Nat.zero_add, not_false_eq_true, not_true_eq_false]; rfl) | (simp only [wk, wt, wl, ↓reduceIte, Nat.reduceEqDiff, Nat.reduceAdd, Nat.zero_add, not_false_eq_true, not_true_eq_false, t2]; done) | (simp only [wk, wt, wl, ↓reduceIte, Nat.reduceEqDiff, Nat.reduceAdd, Nat.zero_add, not_false_eq_true, not_true_eq_false, t2]; rfl)), (by first | rfl | (simp only [wk, wt, wl, ↓reduceIte, Nat.reduceEqDiff, Nat.reduceAdd, Nat.zero_add, not_false_eq_true, not_true_eq_false]; done) | (simp only [wk, wt, wl, ↓reduceIte, Nat.reduceEqDiff, Nat.reduceAdd, Nat.zero_add, not_false_eq_true, not_true_eq_false]; rfl) | (simp only [wk, wt, wl, ↓reduceIte, Nat.reduceEqDiff, Nat.reduceAdd, Nat.zero_add, not_false_eq_true, not_true_eq_false, t3]; done) | (simp only [wk, wt, wl, ↓reduceIte, Nat.reduceEqDiff, Nat.reduceAdd, Nat.zero_add, not_false_eq_true, not_true_eq_false, t3]; rfl)), (by first | rfl | (simp only [wk, wt, wl, ↓reduceIte, Nat.reduceEqDiff, Nat.reduceAdd, Nat.zero_add, not_false_eq_true, not_true_eq_false]; done) | (simp only [wk, wt, wl, ↓reduceIte, Nat.reduceEqDiff, Nat.reduceAdd, Nat.zero_add, not_false_eq_true, not_true_eq_false]; rfl) | (simp only [wk, wt, wl, ↓reduceIte, Nat.reduceEqDiff, Nat.reduceAdd, Nat.zero_add, not_false_eq_true, not_true_eq_false, t4]; done) | (simp only [wk, wt, wl, ↓reduceIte, Nat.reduceEqDiff, Nat.reduceAdd, Nat.zero_add, not_false_eq_true, not_true_eq_false, t4]; rfl)), (by first | rfl | (simp only [wk, wt, wl, ↓reduceIte, Nat.reduceEqDiff, Nat.reduceAdd, Nat.zero_add, not_false_eq_true, not_true_eq_false]; done) | (simp only [wk, wt, wl, ↓reduceIte, Nat.reduceEqDiff, Nat.reduceAdd, Nat.zero_add, not_false_eq_true, not_true_eq_false]; rfl) | (simp only [wk, wt, wl, ↓reduceIte, Nat.reduceEqDiff, Nat.reduceAdd, Nat.zero_add, not_false_eq_true, not_true_eq_false, t5]; done) | (simp only [wk, wt, wl, ↓reduceIte, Nat.reduceEqDiff, Nat.reduceAdd, Nat.zero_add, not_false_eq_true, not_true_eq_false, t5]; rfl)), (by first | rfl | (simp only [wk, wt, wl, ↓reduceIte, Nat.reduceEqDiff, Nat.reduceAdd, Nat.zero_add, not_false_eq_true, not_true_eq_false]; done) | (simp only [wk, wt, wl, ↓reduceIte, Nat.reduceEqDiff, Nat.reduceAdd, Nat.zero_add, not_false_eq_true, not_true_eq_false]; rfl) | (simp only [wk, wt, wl, ↓reduceIte, Nat.reduceEqDiff, Nat.reduceAdd, Nat.zero_add, not_false_eq_true, not_true_eq_false, t12]; done) | (simp only [wk, wt, wl, ↓reduceIte, Nat.reduceEqDiff, Nat.reduceAdd, Nat.zero_add, not_false_eq_true, not_true_eq_false, t12]; rfl)), (by first | rfl | (simp only [wk, wt, wl, ↓reduceIte, Nat.reduceEqDiff, Nat.reduceAdd, Nat.zero_add, not_false_eq_true, not_true_eq_false]; done) | (simp only [wk, wt, wl, ↓reduceIte, Nat.reduceEqDiff, Nat.reduceAdd, Nat.zero_add, not_false_eq_true, not_true_eq_false]; rfl) | (simp only [wk, wt, wl, ↓reduceIte, Nat.reduceEqDiff, Nat.reduceAdd, Nat.zero_add, not_false_eq_true, not_true_eq_false, t13]; done) | (simp only [wk, wt, wl, ↓reduceIte, Nat.reduceEqDiff, Nat.reduceAdd, Nat.zero_add, not_false_eq_true, not_true_eq_false, t13]; rfl)), (by first | rfl | (simp only [wk, wt, wl, ↓reduceIte, Nat.reduceEqDiff, Nat.reduceAdd, Nat.zero_add, not_false_eq_true, not_true_eq_false]; done) | (simp only [wk, wt, wl, ↓reduceIte, Nat.reduceEqDiff, Nat.reduceAdd, Nat.zero_add, not_false_eq_true, not_true_eq_false]; rfl) | (simp only [wk, wt, wl, ↓reduceIte, Nat.reduceEqDiff, Nat.reduceAdd, Nat.zero_add, not_false_eq_true, not_true_eq_false, t15]; done) | (simp only [wk, wt, wl, ↓reduceIte, Nat.reduceEqDiff, Nat.reduceAdd, Nat.zero_add, not_false_eq_true, not_true_eq_false, t15]; rfl))⟩, 0, l, (by first | rfl | (simp only [wk, wt, wl, ↓reduceIte, Nat.reduceEqDiff, Nat.reduceAdd, Nat.zero_add, not_false_eq_true, not_true_eq_false]; done) | (simp only [wk, wt, wl, ↓reduceIte, Nat.reduceEqDiff, Nat.reduceAdd, Nat.zero_add, not_false_eq_true, not_true_eq_false]; rfl)), by omega, D⟩ ?_
    clear t2 t3 t4 t5 t12 t13 t15 VV LV D
    rintro tm hh ⟨⟨t2, t3, t4, t5, t12, t13, t15⟩, j, l, t16, hj, D⟩
    have VV := V4'.chF hfs D.C
    obtain ⟨IX, LP, _, L3, L6, _⟩ := VV.at hqk
    have hmem := List.mem_of_getElem? hqk
    have LR := (VV.2 q hmem).2.1.len underlying51
    by_cases c3 : (j : Int) < (q.rs.length : Int)
    case neg =>
      have d3 := decide_eq_false c3
      simp only [wk, wt, wl, ↓reduceIte, Nat.reduceEqDiff, Nat.reduceAdd, Nat.zero_add, not_false_eq_true, not_true_eq_false, t2, t3, t4, t5, t12, t13, t15, t16, pt, IX, L3, L6, LR, d3, Nat.add_zero, wk1, intOf_int]
      exact ⟨⟨k + 1, l, rfl, by omega, D⟩, by omega⟩
    have d3 := decide_eq_true c3
    by_cases c4 : (j : Int) < q.rows
    case neg =>
      have d4 := decide_eq_false c4
      simp only [wk, wt, wl, ↓reduceIte, Nat.reduceEqDiff, Nat.reduceAdd, Nat.zero_add, not_false_eq_true, not_true_eq_false, t2, t3, t4, t5, t12, t13, t15, t16, pt, IX, L3, L6, LR, d3, d4, Nat.add_zero, wk1, intOf_int]
      exact ⟨⟨k + 1, l, rfl, by omega, D⟩, by omega⟩
    have d4 := decide_eq_true c4
    have wj1 : IntKind.i64.wrap ((j : Int) + 1) = ((j + 1 : Nat) : Int) := by have := (O q hmem).rl; rw [IntWalk.i64_in _ (by omega)]; omega
    simp only [wk, wt, wl, ↓reduceIte, Nat.reduceEqDiff, Nat.reduceAdd, Nat.zero_add, not_false_eq_true, not_true_eq_false, t2, t3, t4, t5, t12, t13, t15, t16, pt, IX, L3, L6, LR, d3, d4, Nat.add_zero, LP]
    refine (one_ok D.S D.T (VV.2 q hmem) (O q hmem) (by omega)).use ?_
    rintro _ h8 ⟨l8, S8, hl8, T8, C8⟩
    simp only [wk, wt, wl, ↓reduceIte, Nat.reduceEqDiff, Nat.reduceAdd, Nat.zero_add, not_false_eq_true, not_true_eq_false, t2, t3, t4, t5, t12, t13, t15, t16, pt, wj1, intOf_int]
    exact ⟨⟨j + 1, l8, rfl, by omega, D.to S8 hl8 T8 C8⟩, by omega⟩
end Go.Proofs.YtcgajolmjjeibaaDoor.Am
end
section
/- Grids of the document: contracts of near, fit; GridSames, told of abstract memory. -/
set_option linter.unusedSimpArgs false
set_option linter.unusedVariables false
set_option maxHeartbeats 4000000
set_option maxRecDepth 20000
namespace Go.Proofs.YtcgajolmjjeibaaDoor.Am
open Go Go.RowKit Go.Proofs.Tryd
theorem RdI.ix64 {h : Heap} {v : Value} {l : List Int} (S : RdI prog h .i64 v l) {i : Nat} {x : Int} (hx : l[i]? = some x) :
    aindexAddr prog 78 v (.int .i64 (i : Int)) = some (.pointer (some (eltA v 1 i))) ∧ aload prog h 3 (eltA v 1 i) = some (.int .i64 x) := by
  obtain ⟨hi, e⟩ := List.getElem?_eq_some_iff.1 hx
  have h1 := S.index underlying78 asz3 (q := .i64) (i := (i : Int)) (by omega) (by omega)
  have h2 := S.at (i := i) (t := 3) underlying3 rfl hi
  rw [Int.toNat_natCast] at h1
  rw [List.getD_eq_getElem?_getD, hx, Option.getD_some] at h2
  exact ⟨h1, h2⟩
theorem near_ok {h : Heap} {v : Value} {l : List Int} (S : RdI prog h .i64 v l) (hl : l.length ≤ 1000) : ACalls prog 12 #[v] h (fun r h' => ∃ b : Bool, r = .bool b ∧ h' = h) := by
  refine acalls_of_W func12 rfl (by kernel_rfl) (by kernel_rfl) (by simp [ntmps12]) ?_
  have LS := S.len underlying78
  simp only [wk, wt, wl, ↓reduceIte, Nat.reduceEqDiff, Nat.reduceAdd, Nat.zero_add, not_false_eq_true, not_true_eq_false]
  refine W_loop (fun tm hh => h = hh ∧ tm 0 = v ∧ ∃ i : Nat, tm 3 = .int .i64 (i : Int) ∧ i ≤ l.length) (fun tm _ => (l.length - intOf (tm 3)).toNat) ⟨rfl, (by first | rfl | (simp only [wk, wt, wl, ↓reduceIte, Nat.reduceEqDiff, Nat.reduceAdd, Nat.zero_add, not_false_eq_true, not_true_eq_false]; done) | (simp only [wk, wt, wl, ↓reduceIte, Nat.reduceEqDiff, Nat.reduceAdd, Nat.zero_add, not_false_eq_true, not_true_eq_false]; rfl)), 0, (by first | rfl | (simp only [wk, wt, wl, ↓reduceIte, Nat.reduceEqDiff, Nat.reduceAdd, Nat.zero_add, not_false_eq_true, not_true_eq_false]; done) | (simp only [wk, wt, wl, ↓reduceIte, Nat.reduceEqDiff, Nat.reduceAdd, Nat.zero_add, not_false_eq_true, not_true_eq_false]; rfl)), by omega⟩ ?_
  rintro tm hh ⟨rfl, t0, i, t3, hi⟩
  simp only [wk, wt, wl, ↓reduceIte, Nat.reduceEqDiff, Nat.reduceAdd, Nat.zero_add, not_false_eq_true, not_true_eq_false, t0, t3, LS]
  refine condK_dec (fun hd => ?_) (fun hd => ?_)
  · obtain ⟨x, hx⟩ : ∃ x, l[i]? = some x := ⟨_, List.getElem?_eq_getElem (by omega)⟩
    have wi : IntKind.i64.wrap ((i : Int) + 1) = ((i + 1 : Nat) : Int) := by rw [IntWalk.i64_in _ (by omega)]; omega
    simp only [wk, wt, wl, ↓reduceIte, Nat.reduceEqDiff, Nat.reduceAdd, Nat.zero_add, not_false_eq_true, not_true_eq_false, t0, t3, (S.ix64 hx).1, (S.ix64 hx).2]
    repeat' (first
      | (with_reducible refine condK_dec (fun hc => ?_) (fun hc => ?_) <;> simp only [wk, wt, wl, ↓reduceIte, Nat.reduceEqDiff, Nat.reduceAdd, Nat.zero_add, not_false_eq_true, not_true_eq_false, t0, t3, (S.ix64 hx).1, (S.ix64 hx).2, wi, intOf_int, hc])
      | (with_reducible refine condK_split (fun hc => ?_) (fun hc => ?_) <;> simp only [wk, wt, wl, ↓reduceIte, Nat.reduceEqDiff, Nat.reduceAdd, Nat.zero_add, not_false_eq_true, not_true_eq_false, t0, t3, (S.ix64 hx).1, (S.ix64 hx).2, wi, intOf_int, hc])
      | (with_reducible refine gateO_dec (fun hc => ?_) (fun hc => ?_) <;> simp only [wk, wt, wl, ↓reduceIte, Nat.reduceEqDiff, Nat.reduceAdd, Nat.zero_add, not_false_eq_true, not_true_eq_false, t0, t3, (S.ix64 hx).1, (S.ix64 hx).2, wi, intOf_int, hc])
      | (with_reducible refine gateO_decF (fun hc => ?_) (fun hc => ?_) <;> simp only [wk, wt, wl, ↓reduceIte, Nat.reduceEqDiff, Nat.reduceAdd, Nat.zero_add, not_false_eq_true, not_true_eq_false, t0, t3, (S.ix64 hx).1, (S.ix64 hx).2, wi, intOf_int, hc])
      | (with_reducible refine gateO_boolT (fun hc => ?_) (fun hc => ?_) <;> simp only [wk, wt, wl, ↓reduceIte, Nat.reduceEqDiff, Nat.reduceAdd, Nat.zero_add, not_false_eq_true, not_true_eq_false, t0, t3, (S.ix64 hx).1, (S.ix64 hx).2, wi, intOf_int, hc])
      | (with_reducible refine gateO_boolF (fun hc => ?_) (fun hc => ?_) <;> simp only [wk, wt, wl, ↓reduceIte, Nat.reduceEqDiff, Nat.reduceAdd, Nat.zero_add, not_false_eq_true, not_true_eq_false, t0, t3, (S.ix64 hx).1, (S.ix64 hx).2, wi, intOf_int, hc]))
    all_goals first | exact ⟨_, rfl, trivial⟩ | exact ⟨⟨i + 1, rfl, by omega⟩, by omega⟩
  · simp only [wk, wt, wl, ↓reduceIte, Nat.reduceEqDiff, Nat.reduceAdd, Nat.zero_add, not_false_eq_true, not_true_eq_false]
    exact ⟨_, rfl, trivial⟩
def FitP (q : PaR) : Prop := smallB q.lines = true ∧ q.status.length ≤ 3000 ∧ q.rs.length ≤ 300
def Fit (qs : List PaR) (ms : List Int) : Prop := qs.length ≤ 8 ∧ ms.length ≤ 3000 ∧ ∀ q, q ∈ qs → FitP q
def scC (sr sc : Int) (pv mv : Value) (sy sx : Int) : List Value := [.int .i64 sr, .int .i64 sc, pv, mv, .int .i64 sy, .int .i64 sx]
theorem boxV_scene {h : Heap} {sr sc sy sx : Int} {pv mv : Value} (o1 : one pv = true) (o2 : one mv = true) : boxV prog h 25 (.agg (scC sr sc pv mv sy sx).toArray) = some (.pointer (some ⟨h.size, 0, none⟩), h.new 25 (scC sr sc pv mv sy sx)) := by
  simp [boxV, asz25, Value.cells, scC, one_int, o1, o2]
theorem sc_load {h : Heap} {b : Nat} {sr sc sy sx : Int} {pv mv : Value} (V : Var h b (scC sr sc pv mv sy sx)) : aload prog h 3 ⟨b, 0, none⟩ = some (.int .i64 sr) ∧ aload prog h 3 ⟨b, 1, none⟩ = some (.int .i64 sc) ∧ aload prog h 22 ⟨b, 2, none⟩ = some pv ∧ aload prog h 23 ⟨b, 3, none⟩ = some mv ∧ aload prog h 3 ⟨b, 4, none⟩ = some (.int .i64 sy) ∧ aload prog h 3 ⟨b, 5, none⟩ = some (.int .i64 sx) ∧ aload prog h 25 ⟨b, 0, none⟩ = some (.agg (scC sr sc pv mv sy sx).toArray) :=
  ⟨V.load1 (P := prog) (t := 3) underlying3 rfl (i := 0), V.load1 (P := prog) (t := 3) underlying3 rfl (i := 1), V.load1 (P := prog) (t := 22) underlying22 rfl (i := 2), V.load1 (P := prog) (t := 23) underlying23 rfl (i := 3), V.load1 (P := prog) (t := 3) underlying3 rfl (i := 4), V.load1 (P := prog) (t := 3) underlying3 rfl (i := 5), V.loadA (P := prog) (t := 25) underlying25 rfl asz25⟩
abbrev z16 : List Value := [.int .i64 0, .int .i64 0, .int .i64 0, .int .i64 0, .int .i64 0, .slice none 0 0, .slice none 0 0, .int .i64 0, .int .i64 0, .slice none 0 0, .bool false, .int .i64 0, .int .i64 0, .int .i64 0, .int .i64 0, .int .i64 0]
theorem newPaneR {h : Heap} {tm : Tm} : aeff prog tm h (.alloc 66) = some (.pointer (some ⟨h.size, 0, none⟩), h.new 66 z16) := by
  have := alloc_eq (tm := tm) (h := h) azero66 asz66 (by simp [Value.cells, one]); simpa [Value.cells] using this
theorem paneR_var {h : Heap} (H : Wf h) {q : PaR} (o : one q.lv = true ∧ one q.rv = true ∧ one q.sv = true) : ∃ h', storeV prog (h.new 66 z16) 66 (.pointer (some ⟨h.size, 0, none⟩)) (.agg (prC q).toArray) = some (undef, h') ∧ Var h' h.size (prC q) ∧ Keeps h h' ∧ h'.size = h.size + 1 := by
  have N := Keeps.new H 66 z16
  obtain ⟨h', e, V, C, z⟩ := (Var.new (e := 66) H (cs := z16)).store (P := prog) (t := 66) (v := .agg (prC q).toArray) (i := 0) (Ch.wf N) asz66 (by simp [Value.cells, prC]) (by simp [Value.cells, prC, one_int, one_bool, o.1, o.2.1, o.2.2])
  refine ⟨h', e, ?_, N.step C fun b e => by omega, z⟩
  have : over z16 0 (Value.agg (prC q).toArray).cells.toList = prC q := by
    rw [over_all (by simp [Value.cells, prC])]; simp [Value.cells]
  rw [this] at V; exact V
theorem bs5 {h : Heap} {a b c d e : Int} : abuildSlice prog h 78 5 #[(0, .int .i64 a), (1, .int .i64 b), (2, .int .i64 c), (3, .int .i64 d), (4, .int .i64 e)] = some (.slice (some ⟨h.size, 0, none⟩) 5 6, h.new 3 [.int .i64 a, .int .i64 b, .int .i64 c, .int .i64 d, .int .i64 e]) := by
  have hr : Array.range 5 = #[0, 1, 2, 3, 4] := rfl
  simp [abuildSlice, underlying78, asz3, azero3, firstOf, Instr.fill, hr, Value.cells, one_int]
theorem bs3 {h : Heap} {a b c : Int} : abuildSlice prog h 78 3 #[(0, .int .i64 a), (1, .int .i64 b), (2, .int .i64 c)] = some (.slice (some ⟨h.size, 0, none⟩) 3 4, h.new 3 [.int .i64 a, .int .i64 b, .int .i64 c]) := by
  have hr : Array.range 3 = #[0, 1, 2] := rfl
  simp [abuildSlice, underlying78, asz3, azero3, firstOf, Instr.fill, hr, Value.cells, one_int]
theorem fit_ok {h : Heap} {sr sc sy sx : Int} {pv mv : Value} {qs : List PaR} {ms : List Int} (V : PRS h pv qs) (M : RdI prog h .i32 mv ms) (hq : qs.length ≤ 10000000) (hms : ms.length ≤ 10000000) (hb : ∀ q, q ∈ qs → q.lines.length ≤ 10000000 ∧ sumL q.lines ≤ 10000000 ∧ q.rs.length ≤ 10000000 ∧ q.status.length ≤ 10000000) :
    ACalls prog 6 #[.agg (scC sr sc pv mv sy sx).toArray] h (fun r h' => ∃ b : Bool, r = .bool b ∧ (b = true → Fit qs ms) ∧ Keeps h h') := by
  refine acalls_of_W' func6 rfl (by kernel_rfl) (by kernel_rfl) (by simp [ntmps6]) ?_
  intro H
  have N1 := Keeps.new H 25 (scC sr sc pv mv sy sx)
  have V1 := Var.new (e := 25) H (cs := scC sr sc pv mv sy sx)
  have z1 : (h.new 25 (scC sr sc pv mv sy sx)).size = h.size + 1 := rfl
  obtain ⟨s0, s1, s2, s3, s4, s5, s6⟩ := sc_load V1
  simp only [wk, wt, wl, ↓reduceIte, Nat.reduceEqDiff, Nat.reduceAdd, Nat.zero_add, not_false_eq_true, not_true_eq_false, aeff_box, boxV_scene (Rd.one V.1) (Rd.one M), pt]
  generalize h.new 25 (scC sr sc pv mv sy sx) = h1 at *
  have H1 := Ch.wf N1
  have VV := V.keeps N1
  have MM : RdI prog h1 .i32 mv ms := RdI.keeps M N1
  have LV := VV.1.len underlying22
  have LM := MM.ln (n := (ms.length : Int)) rfl
  refine adraw_order [(0, false), (1, false), (2, false), (3, false), (4, false), (5, false), (6, false), (7, false), (8, false), (9, false)] mixed (by kernel_rfl) (by kernel_rfl) (by kernel_rfl) (by with_reducible repeat (first | exact PF_retK | refine PF_thenK ?_ | refine PF_blockK ?_)) ?_
  simp only [wk, wt, wl, ↓reduceIte, Nat.reduceEqDiff, Nat.reduceAdd, Nat.zero_add, not_false_eq_true, not_true_eq_false, dK_t, pt, s0, s1, mxV, mnV]
  by_cases a1 : 20000 < IntKind.i64.wrap (imax 2 (imin sr 500) * imax 2 (imin sc 1000))
  · have d1 := decide_eq_true a1
    simp only [wk, wt, wl, ↓reduceIte, Nat.reduceEqDiff, Nat.reduceAdd, Nat.zero_add, not_false_eq_true, not_true_eq_false, d1]
    exact ⟨false, rfl, (fun e => by cases e), N1⟩
  have d1 := decide_eq_false a1
  by_cases a2 : 8 < (qs.length : Int)
  · have d2 := decide_eq_true a2
    simp only [wk, wt, wl, ↓reduceIte, Nat.reduceEqDiff, Nat.reduceAdd, Nat.zero_add, not_false_eq_true, not_true_eq_false, d1, pt, s2, LV, d2]
    exact ⟨false, rfl, (fun e => by cases e), N1⟩
  have d2 := decide_eq_false a2
  by_cases a3 : 3000 < (ms.length : Int)
  · have d3 := decide_eq_true a3
    simp only [wk, wt, wl, ↓reduceIte, Nat.reduceEqDiff, Nat.reduceAdd, Nat.zero_add, not_false_eq_true, not_true_eq_false, d1, pt, s2, LV, d2, s3, LM, d3]
    exact ⟨false, rfl, (fun e => by cases e), N1⟩
  have d3 := decide_eq_false a3
  simp only [wk, wt, wl, ↓reduceIte, Nat.reduceEqDiff, Nat.reduceAdd, Nat.zero_add, not_false_eq_true, not_true_eq_false, d1, pt, s2, LV, d2, s3, LM, d3]
  refine W_loop (fun tm hh => tm 1 = pt h.size ∧ Keeps h1 hh ∧ ∃ i : Nat, tm 5 = .int .i64 (i : Int) ∧ i ≤ qs.length ∧ ∀ j q, j < i → qs[j]? = some q → FitP q) (fun tm _ => (qs.length - intOf (tm 5)).toNat) ⟨(by first | rfl | (simp only [wk, wt, wl, ↓reduceIte, Nat.reduceEqDiff, Nat.reduceAdd, Nat.zero_add, not_false_eq_true, not_true_eq_false]; done) | (simp only [wk, wt, wl, ↓reduceIte, Nat.reduceEqDiff, Nat.reduceAdd, Nat.zero_add, not_false_eq_true, not_true_eq_false]; rfl)), Keeps.refl H1, 0, (by first | rfl | (simp only [wk, wt, wl, ↓reduceIte, Nat.reduceEqDiff, Nat.reduceAdd, Nat.zero_add, not_false_eq_true, not_true_eq_false]; done) | (simp only [wk, wt, wl, ↓reduceIte, Nat.reduceEqDiff, Nat.reduceAdd, Nat.zero_add, not_false_eq_true, not_true_eq_false]; rfl)), by omega, fun j q hj => by omega⟩ ?_
  rintro tm hh ⟨t1, K, i, t5, hi, hall⟩
  obtain ⟨s0, s1, s2, s3, s4, s5, s6⟩ := sc_load (Keeps.var H1 K V1)
  have VV := VV.keeps K
  have LV := VV.1.len underlying22
  simp only [wk, wt, wl, ↓reduceIte, Nat.reduceEqDiff, Nat.reduceAdd, Nat.zero_add, not_false_eq_true, not_true_eq_false, t1, t5, pt, s2, LV]
  refine condK_dec (fun hd => ?_) (fun hd => ?_)
  · obtain ⟨q, hqi⟩ : ∃ q, qs[i]? = some q := ⟨_, List.getElem?_eq_getElem (by omega)⟩
    have hmem := List.mem_of_getElem? hqi
    obtain ⟨b1, b2, b3, b4⟩ := hb q hmem
    obtain ⟨IX, LP, _⟩ := VV.at hqi
    have PV := VV.2 q hmem
    have Hh := Ch.wf K
    obtain ⟨h3, e3, V3, K3, z3⟩ := paneR_var Hh PV.ones
    obtain ⟨p0, p5, p6, p7, p8, p9, p10, p11⟩ := pr_load V3
    obtain ⟨h4, e4, V4, K4, z4⟩ := win_var (q := q) (Ch.wf K3)
    obtain ⟨w1, w2, w3, w4⟩ := wn_load V4
    have V34 := Keeps.var (Ch.wf K3) K4 V3
    rw [z3] at e4 w1 w2 w3 w4
    obtain ⟨p0', p5', p6', p7', p8', p9', p10', p11'⟩ := pr_load V34
    have N5 := Keeps.new (Ch.wf K4) 3 [.int .i64 q.top, .int .i64 q.left, .int .i64 q.rows, .int .i64 q.cols, .int .i64 q.pl]
    have R5 : RdI prog (h4.new 3 [.int .i64 q.top, .int .i64 q.left, .int .i64 q.rows, .int .i64 q.cols, .int .i64 q.pl]) .i64 (.slice (some ⟨h4.size, 0, none⟩) 5 6) [q.top, q.left, q.rows, q.cols, q.pl] := Rd.new (Ch.wf K4) asz3 rfl
    have K15 := ((K.trans K3).trans K4).trans N5
    have VP5 := Keeps.var (Ch.wf K4) N5 V34
    obtain ⟨_, y5, y6, _, _, y9, _⟩ := pr_load VP5
    have PV5 := PV.keeps ((K3.trans K4).trans N5)
    have L9 := PV5.2.2.ln (n := (q.status.length : Int)) rfl
    have L6 := PV5.2.1.len underlying51
    simp only [wk, wt, wl, ↓reduceIte, Nat.reduceEqDiff, Nat.reduceAdd, Nat.zero_add, not_false_eq_true, not_true_eq_false, t1, t5, pt, s2, LV, IX, LP, newPaneR, e3, p0, z3, newWin, e4, w1, w2, w3, w4, p8', bs5]
    refine (near_ok R5 (by simp)).use ?_
    rintro _ hh' ⟨b, rfl, hq'⟩
    obtain rfl := hq'.symm
    have wi : IntKind.i64.wrap ((i : Int) + 1) = ((i + 1 : Nat) : Int) := by rw [IntWalk.i64_in _ (by omega)]; omega
    have out : ∃ b : Bool, Value.bool false = .bool b ∧ (b = true → Fit qs ms) ∧ Keeps h (h4.new 3 [.int .i64 q.top, .int .i64 q.left, .int .i64 q.rows, .int .i64 q.cols, .int .i64 q.pl]) := ⟨false, rfl, (fun e => by cases e), N1.trans K15⟩
    cases b with
    | false =>
      simp only [wk, wt, wl, ↓reduceIte, Nat.reduceEqDiff, Nat.reduceAdd, Nat.zero_add, not_false_eq_true, not_true_eq_false, t1, t5, pt]
      exact out
    | true =>
      simp only [wk, wt, wl, ↓reduceIte, Nat.reduceEqDiff, Nat.reduceAdd, Nat.zero_add, not_false_eq_true, not_true_eq_false, t1, t5, pt, y5]
      refine (smallText_ok PV5.1 (fun _ => by omega) (by omega)).use_pure ?_
      cases hsm : smallB q.lines with
      | false =>
        simp only [wk, wt, wl, ↓reduceIte, Nat.reduceEqDiff, Nat.reduceAdd, Nat.zero_add, not_false_eq_true, not_true_eq_false, t1, t5, pt]
        exact out
      | true =>
        by_cases a4 : 3000 < (q.status.length : Int)
        · have d4 := decide_eq_true a4
          simp only [wk, wt, wl, ↓reduceIte, Nat.reduceEqDiff, Nat.reduceAdd, Nat.zero_add, not_false_eq_true, not_true_eq_false, t1, t5, pt, y9, L9, d4]
          exact out
        have d4 := decide_eq_false a4
        by_cases a5 : 300 < (q.rs.length : Int)
        · have d5 := decide_eq_true a5
          simp only [wk, wt, wl, ↓reduceIte, Nat.reduceEqDiff, Nat.reduceAdd, Nat.zero_add, not_false_eq_true, not_true_eq_false, t1, t5, pt, y9, L9, d4, y6, L6, d5]
          exact out
        have d5 := decide_eq_false a5
        simp only [wk, wt, wl, ↓reduceIte, Nat.reduceEqDiff, Nat.reduceAdd, Nat.zero_add, not_false_eq_true, not_true_eq_false, t1, t5, pt, y9, L9, d4, y6, L6, d5]
        generalize h4.new 3 [.int .i64 q.top, .int .i64 q.left, .int .i64 q.rows, .int .i64 q.cols, .int .i64 q.pl] = h5 at *
        have H5 := Ch.wf K15
        refine W_loop (fun tm h6 => tm 1 = pt h.size ∧ tm 5 = .int .i64 (i : Int) ∧ tm 6 = pt hh.size ∧ Keeps h5 h6 ∧ ∃ k : Nat, tm 8 = .int .i64 (k : Int) ∧ k ≤ q.rs.length) (fun tm _ => (q.rs.length - intOf (tm 8)).toNat) ⟨(by first | rfl | (simp only [wk, wt, wl, ↓reduceIte, Nat.reduceEqDiff, Nat.reduceAdd, Nat.zero_add, not_false_eq_true, not_true_eq_false]; done) | (simp only [wk, wt, wl, ↓reduceIte, Nat.reduceEqDiff, Nat.reduceAdd, Nat.zero_add, not_false_eq_true, not_true_eq_false]; rfl) | (simp only [wk, wt, wl, ↓reduceIte, Nat.reduceEqDiff, Nat.reduceAdd, Nat.zero_add, not_false_eq_true, not_true_eq_false, t1]; done) | (simp only [wk, wt, wl, ↓reduceIte, Nat.reduceEqDiff, Nat.reduceAdd, Nat.zero_add, not_false_eq_true, not_true_eq_false, t1]; rfl)), (by first | rfl | (simp only [wk, wt, wl, ↓reduceIte, Nat.reduceEqDiff, Nat.reduceAdd, Nat.zero_add, not_false_eq_true, not_true_eq_false]; done) | (simp only [wk, wt, wl, ↓reduceIte, Nat.reduceEqDiff, Nat.reduceAdd, Nat.zero_add, not_false_eq_true, not_true_eq_false]; rfl) | (simp only [wk, wt, wl, ↓reduceIte, Nat.reduceEqDiff, Nat.reduceAdd, Nat.zero_add, not_false_eq_true, not_true_eq_false, t5]; done) | (simp only [wk, wt, wl, ↓reduceIte, Nat.reduceEqDiff, Nat.reduceAdd, Nat.zero_add, not_false_eq_true, not_true_eq_false, t5]; rfl)), (by first | rfl | (simp only [wk, wt, wl, ↓reduceIte, Nat.reduceEqDiff, Nat.reduceAdd, Nat.zero_add, not_false_eq_true, not_true_eq_false]; done) | (simp only [wk, wt, wl, ↓reduceIte, Nat.reduceEqDiff, Nat.reduceAdd, Nat.zero_add, not_false_eq_true, not_true_eq_false]; rfl)), Keeps.refl H5, 0, (by first | rfl | (simp only [wk, wt, wl, ↓reduceIte, Nat.reduceEqDiff, Nat.reduceAdd, Nat.zero_add, not_false_eq_true, not_true_eq_false]; done) | (simp only [wk, wt, wl, ↓reduceIte, Nat.reduceEqDiff, Nat.reduceAdd, Nat.zero_add, not_false_eq_true, not_true_eq_false]; rfl)), by omega⟩ ?_
        clear t1 t5
        rintro tm h6 ⟨t1, t5, t6, K6, k, t8, hk⟩
        obtain ⟨_, _, y6, _⟩ := pr_load (Keeps.var H5 K6 VP5)
        have RR6 : RR h6 q.rv q.rs := Rd.keeps PV5.2.1 K6
        have L6 := RR6.len underlying51
        simp only [wk, wt, wl, ↓reduceIte, Nat.reduceEqDiff, Nat.reduceAdd, Nat.zero_add, not_false_eq_true, not_true_eq_false, t1, t5, t6, t8, pt, y6, L6]
        refine condK_dec (fun hd => ?_) (fun hd => ?_)
        · obtain ⟨r, hr⟩ : ∃ r, q.rs[k]? = some r := ⟨_, List.getElem?_eq_getElem (by omega)⟩
          have IXr := Rd.index RR6 underlying51 asz50 (q := .i64) (i := (k : Int)) (by omega) (by omega)
          rw [Int.toNat_natCast] at IXr
          obtain ⟨r0, r1, r2, _⟩ := RR.flds RR6 hr
          have wk1 : IntKind.i64.wrap ((k : Int) + 1) = ((k + 1 : Nat) : Int) := by rw [IntWalk.i64_in _ (by omega)]; omega
          have N7 := Keeps.new (Ch.wf K6) 3 [.int .i64 r.ln, .int .i64 r.fr, .int .i64 r.to]
          have R7 : RdI prog (h6.new 3 [.int .i64 r.ln, .int .i64 r.fr, .int .i64 r.to]) .i64 (.slice (some ⟨h6.size, 0, none⟩) 3 4) [r.ln, r.fr, r.to] := Rd.new (Ch.wf K6) asz3 rfl
          simp only [wk, wt, wl, ↓reduceIte, Nat.reduceEqDiff, Nat.reduceAdd, Nat.zero_add, not_false_eq_true, not_true_eq_false, t1, t5, t6, t8, pt]
          refine adraw_order [(0, false), (1, false), (2, false), (3, false), (4, false), (5, false), (6, false), (7, false), (8, false), (9, false), (10, false), (11, false), (12, false), (13, false), (14, false), (15, false), (16, false), (17, false), (18, true), (19, true), (20, false)] mixed (by kernel_rfl) (by kernel_rfl) (by kernel_rfl) (by with_reducible repeat (first | exact PF_retK | refine PF_thenK ?_ | refine PF_blockK ?_)) ?_
          simp only [wk, wt, wl, ↓reduceIte, Nat.reduceEqDiff, Nat.reduceAdd, Nat.zero_add, not_false_eq_true, not_true_eq_false, dK_t, t6, t8, pt, y6, IXr, r0, r1, r2, bs3]
          refine ⟨N7.reads (Ch.wf K6), ?_⟩
          refine (near_ok R7 (by simp)).use ?_
          rintro _ h8 ⟨b, rfl, hq8⟩
          obtain rfl := hq8.symm
          cases b with
          | false =>
            simp only [wk, wt, wl, ↓reduceIte, Nat.reduceEqDiff, Nat.reduceAdd, Nat.zero_add, not_false_eq_true, not_true_eq_false, dK_t, t1, t5, t6, t8, pt]
            exact ⟨Reads.refl _, false, rfl, (fun e => by cases e), N1.trans ((K15.trans K6).trans N7)⟩
          | true =>
            simp only [wk, wt, wl, ↓reduceIte, Nat.reduceEqDiff, Nat.reduceAdd, Nat.zero_add, not_false_eq_true, not_true_eq_false, dK_t, t1, t5, t6, t8, pt, wk1, intOf_int]
            exact ⟨Reads.refl _, ⟨K6.trans N7, k + 1, rfl, by omega⟩, by omega⟩
        · simp only [wk, wt, wl, ↓reduceIte, Nat.reduceEqDiff, Nat.reduceAdd, Nat.zero_add, not_false_eq_true, not_true_eq_false, t1, t5, t6, t8, wi, intOf_int, pt]
          exact ⟨⟨K15.trans K6, i + 1, rfl, by omega, fun j q' hj hq' => by
            by_cases e : j = i
            · subst e
              rw [hqi] at hq'; cases hq'
              exact ⟨hsm, by omega, by omega⟩
            · exact hall j q' (by omega) hq'⟩, by omega⟩
  · simp only [wk, wt, wl, ↓reduceIte, Nat.reduceEqDiff, Nat.reduceAdd, Nat.zero_add, not_false_eq_true, not_true_eq_false]
    exact ⟨true, rfl, fun _ => ⟨by omega, by omega, fun q hq => by
      obtain ⟨j, hj, e⟩ := List.getElem_of_mem hq
      exact hall j q (by omega) (by rw [← e]; exact List.getElem?_eq_getElem hj)⟩, N1.trans K⟩
theorem small_len {ls : List (List Int)} (h : smallB ls = true) (hs : ls.length ≤ 10000000 ∧ sumL ls ≤ 10000000) : ls.length ≤ 300 ∧ ∀ (i : Nat) xs, ls[i]? = some xs → xs.length ≤ 10000 := by
  simp only [smallB, Bool.and_eq_true, decide_eq_true_eq] at h
  obtain ⟨h1, h2⟩ := h
  refine ⟨by omega, fun i xs hx => ?_⟩
  have := sumL_get hx
  unfold runesZ at h2
  by_cases c : 0 < (ls.length : Int) - 1 + sumL ls
  · rw [if_pos c] at h2; omega
  · omega
theorem fit_pr {q : PaR} (F : FitP q) (hr : ∀ (i : Nat) xs, q.lines[i]? = some xs → ∀ j, isR (xs.getD j 0)) (hs : ∀ j, isR (q.status.getD j 0)) (hb : q.lines.length ≤ 10000000 ∧ sumL q.lines ≤ 10000000) : PrOk q := by
  obtain ⟨f1, f2, f3⟩ := F
  obtain ⟨g1, g2⟩ := small_len f1 hb
  exact ⟨fun i xs hx => ⟨hr i xs hx, g2 i xs hx⟩, ⟨hs, by omega⟩, by omega, by omega⟩
/-- A scene as it is handed over. -/
structure ScI (h : Heap) where
  sr : Int
  sc : Int
  pv : Value
  mv : Value
  sy : Int
  sx : Int
  qs : List PaR
  ms : List Int
  V : PRS h pv qs
  M : RdI prog h .i32 mv ms
  tx : ∀ q, q ∈ qs → (∀ (i : Nat) xs, q.lines[i]? = some xs → ∀ j, isR (xs.getD j 0)) ∧ ∀ j, isR (q.status.getD j 0)
  mx : ∀ j, isR (ms.getD j 0)
  bq : qs.length ≤ 10000000
  bm : ms.length ≤ 10000000
  bp : ∀ q, q ∈ qs → q.lines.length ≤ 10000000 ∧ sumL q.lines ≤ 10000000 ∧ q.rs.length ≤ 10000000 ∧ q.status.length ≤ 10000000
def ScI.val {h : Heap} (s : ScI h) : Value := .agg (scC s.sr s.sc s.pv s.mv s.sy s.sx).toArray
theorem decB (b : Bool) : decide (b = b) = true := by simp
theorem gridSames_law {h : Heap} (G : Gl h) (s t : ScI h) : ACalls prog 3 #[s.val, t.val] h (fun v h' => v = .bool true ∧ Keeps h h') := by
  obtain ⟨sr, sc, pv, mv, sy, sx, qs, ms, V, M, tx, mx, bq, bm, bp⟩ := s
  obtain ⟨tr, tc, pw, mw, ty, tx', ps, ns, X, N, ux, nx, cq, cm, cp⟩ := t
  refine acalls_of_W' func3 rfl (by kernel_rfl) (by kernel_rfl) (by simp [ntmps3]) ?_
  intro H
  simp only [ScI.val]
  have N1 := Keeps.new H 25 (scC sr sc pv mv sy sx)
  have V1 := Var.new (e := 25) H (cs := scC sr sc pv mv sy sx)
  have N2 := Keeps.new (Ch.wf N1) 25 (scC tr tc pw mw ty tx')
  have V2 := Var.new (e := 25) (Ch.wf N1) (cs := scC tr tc pw mw ty tx')
  have W1 := Keeps.var (Ch.wf N1) N2 V1
  rw [newSz] at V2
  have K2 := N1.trans N2
  have H2 := Ch.wf K2
  obtain ⟨s0, s1, s2, s3, s4, s5, s6⟩ := sc_load W1
  obtain ⟨t0, t1, t2, t3, t4, t5, t6⟩ := sc_load V2
  simp only [wk, wt, wl, ↓reduceIte, Nat.reduceEqDiff, Nat.reduceAdd, Nat.zero_add, not_false_eq_true, not_true_eq_false, aeff_box, boxV_scene (Rd.one V.1) (Rd.one M), boxV_scene (Rd.one X.1) (Rd.one N), newSz, pt, s6]
  generalize (h.new 25 (scC sr sc pv mv sy sx)).new 25 (scC tr tc pw mw ty tx') = h2 at *
  refine (fit_ok (V.keeps K2) (RdI.keeps M K2) bq bm bp).use ?_
  rintro _ h3 ⟨b1, rfl, F1, K3⟩
  have K03 := K2.trans K3
  cases b1 with
  | false =>
    simp only [wk, wt, wl, ↓reduceIte, Nat.reduceEqDiff, Nat.reduceAdd, Nat.zero_add, not_false_eq_true, not_true_eq_false]
    exact K03
  | true =>
    obtain ⟨_, _, _, _, _, _, t6⟩ := sc_load (Keeps.var H2 K3 V2)
    simp only [wk, wt, wl, ↓reduceIte, Nat.reduceEqDiff, Nat.reduceAdd, Nat.zero_add, not_false_eq_true, not_true_eq_false, t6]
    refine (fit_ok (X.keeps K03) (RdI.keeps N K03) cq cm cp).use ?_
    rintro _ h4 ⟨b2, rfl, F2, K4⟩
    have K04 := K03.trans K4
    cases b2 with
    | false =>
      simp only [wk, wt, wl, ↓reduceIte, Nat.reduceEqDiff, Nat.reduceAdd, Nat.zero_add, not_false_eq_true, not_true_eq_false]
      exact K04
    | true =>
      obtain ⟨f1, f2, f3⟩ := F1 rfl
      obtain ⟨g1, g2, g3⟩ := F2 rfl
      have W4 := Keeps.var H2 (K3.trans K4) W1
      have V4 := Keeps.var H2 (K3.trans K4) V2
      obtain ⟨s0, s1, s2, s3, s4, s5, s6⟩ := sc_load W4
      simp only [wk, wt, wl, ↓reduceIte, Nat.reduceEqDiff, Nat.reduceAdd, Nat.zero_add, not_false_eq_true, not_true_eq_false, s0, s1, s2, s3, s4, s5, pt]
      refine (refDraw_ok (V.keeps K04) (fun q hq => fit_pr (f3 q hq) (tx q hq).1 (tx q hq).2 ⟨(bp q hq).1, (bp q hq).2.1⟩) (by omega) (RdI.keeps M K04) ⟨mx, by omega⟩).use ?_
      rintro _ h5 ⟨a, ka, rfl, RA, TA, LA, K5⟩
      have K05 := K04.trans K5
      obtain ⟨h6, e6, A6, K6, z6⟩ := grid_var (g := a) (v := cvF ka a.l.length) (Ch.wf K05) RA.one
      have K06 := K05.trans K6
      have V6 := Keeps.var (Ch.wf K04) (K5.trans K6) V4
      obtain ⟨t0, t1, t2, t3, t4, t5, t6⟩ := sc_load V6
      simp only [wk, wt, wl, ↓reduceIte, Nat.reduceEqDiff, Nat.reduceAdd, Nat.zero_add, not_false_eq_true, not_true_eq_false, e6, t0, t1, t2, t3, t4, t5, pt]
      refine (refDraw_ok (X.keeps K06) (fun q hq => fit_pr (g3 q hq) (ux q hq).1 (ux q hq).2 ⟨(cp q hq).1, (cp q hq).2.1⟩) (by omega) (RdI.keeps N K06) ⟨nx, by omega⟩).use ?_
      rintro _ h7 ⟨b, kb, rfl, RB, TB, LB, K7⟩
      have K07 := K06.trans K7
      obtain ⟨h8, e8, B8, K8, z8⟩ := grid_var (g := b) (v := cvF kb b.l.length) (Ch.wf K07) RB.one
      have K08 := K07.trans K8
      have A8 := Keeps.var (Ch.wf K06) (K7.trans K8) A6
      have RA8 := RA.keeps ((K6.trans K7).trans K8)
      have RB8 := RB.keeps K8
      obtain ⟨_, _, _, _, _, la⟩ := grid_load A8
      obtain ⟨_, _, _, _, _, lb⟩ := grid_load B8
      have xa : TxB a.l := fun c hc => by have := TA c hc; omega
      have xb : TxB b.l := fun c hc => by have := TB c hc; omega
      simp only [wk, wt, wl, ↓reduceIte, Nat.reduceEqDiff, Nat.reduceAdd, Nat.zero_add, not_false_eq_true, not_true_eq_false, e8, pt]
      refine adraw_order [(0, false), (1, false), (3, false), (4, false), (2, true), (5, false), (6, false), (7, false), (8, false), (9, false), (10, true), (11, false), (12, false), (13, true), (14, false), (15, false)] mixed (by kernel_rfl) (by kernel_rfl) (by kernel_rfl) (by with_reducible repeat (first | exact PF_retK | refine PF_thenK ?_ | refine PF_blockK ?_)) ?_
      simp only [wk, wt, wl, ↓reduceIte, Nat.reduceEqDiff, Nat.reduceAdd, Nat.zero_add, not_false_eq_true, not_true_eq_false, dK_t, pt, la, lb]
      refine (sameG_ok RA8 RB8 (by omega) xa).use ?_
      rintro _ h9 ⟨rfl, K9⟩
      simp only [wk, wt, wl, ↓reduceIte, Nat.reduceEqDiff, Nat.reduceAdd, Nat.zero_add, not_false_eq_true, not_true_eq_false, dK_t, pt]
      refine ⟨K9.reads (Ch.wf K8), ?_⟩
      refine (refSame_ok (RA8.keeps K9) (RB8.keeps K9) (by omega) xa).use ?_
      rintro _ h10 ⟨rfl, K10⟩
      have B10 := Keeps.var (Ch.wf K8) (K9.trans K10) B8
      obtain ⟨_, _, _, _, _, lb10⟩ := grid_load B10
      simp only [wk, wt, wl, ↓reduceIte, Nat.reduceEqDiff, Nat.reduceAdd, Nat.zero_add, not_false_eq_true, not_true_eq_false, dK_t, pt, eqB, decB, lb10]
      have RB10 := (RB8.keeps K9).keeps K10
      refine (sameG_ok RB10 RB10 (by omega) xb).use ?_
      rintro _ h11 ⟨rfl, K11⟩
      simp only [wk, wt, wl, ↓reduceIte, Nat.reduceEqDiff, Nat.reduceAdd, Nat.zero_add, not_false_eq_true, not_true_eq_false, dK_t, pt, decide_eq_true (rfl : b = b)]
      refine ⟨K11.reads (Ch.wf K10), ?_⟩
      have K0b := ((K08.trans K9).trans K10).trans K11
      refine (awake_ok (G.keeps K0b)).use ?_
      rintro _ h12 ⟨rfl, K12⟩
      simp only [wk, wt, wl, ↓reduceIte, Nat.reduceEqDiff, Nat.reduceAdd, Nat.zero_add, not_false_eq_true, not_true_eq_false, dK_t]
      exact ⟨K12.reads (Ch.wf K11), K0b.trans K12⟩
end Go.Proofs.YtcgajolmjjeibaaDoor.Am
end
