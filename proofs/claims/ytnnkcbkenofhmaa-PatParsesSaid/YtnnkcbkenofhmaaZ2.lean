/- The texts of this seat, one behind another (part 2 of 9): the frame (an abstract machine), the contracts of functions, the laws. -/
import Derived.Test.YtnnkcbkenofhmaaZ1
section
/- Patterns, the program: contract of Parse, which recovers what its readers give up with; by walks. -/
set_option linter.unusedSimpArgs false
set_option linter.unusedVariables false
set_option maxHeartbeats 4000000
set_option maxRecDepth 20000
namespace Go.Proofs.Ytnnkcbkenofhmaa.Am
open Go Go.RowKit Go.Proofs.Try
theorem neq_nil : abin prog .neq 20 .nilIface .nilIface = some (.bool false) := by simp [abin, aeq, underlying20]
theorem neq_flt {e : Int} : abin prog .neq 20 (.iface 42 (.agg #[.int .i64 e])) .nilIface = some (.bool true) := by simp [abin, aeq, underlying20]
theorem assert_flt {tm : Tm} {x : Operand} {xt : TypeId} {e : Int} (h : ev tm x = flt e) : assertV prog tm (.typeAssert x xt 42 true) = some (.tuple #[.agg #[.int .i64 e], .bool true]) := by
  simp [assertV, h, flt, underlying42]
/-- The closure, where nothing is under way. -/
theorem dc_none {h : Heap} {a b : Value} {Q : Heap → Prop} (q : Q h) : DCall prog 19 #[a, b] none h Q := by
  refine dcall_of_WD func19 rfl rfl (by kernel_rfl) (by decide) (by simp [ntmps19]) ?_
  simp only [wk, wt, wl, ↓reduceIte, Nat.reduceEqDiff, Nat.reduceAdd, Nat.zero_add, not_false_eq_true, not_true_eq_false, wd, neq_nil, Option.getD_none]
  exact ⟨.inl trivial, q⟩
/-- The closure, where a reader has given up. -/
theorem dc_some {h : Heap} {b0 b1 : Nat} {c : RC} {x e : Int} {Q : Heap → Prop} (H : Wf h) (V0 : Var h b0 (reC c)) (V1 : Var h b1 [.int .i64 x]) (hne : b0 ≠ b1)
    (K : ∀ h', Var h' b0 (reC rc0) → Var h' b1 [.int .i64 e] → Ch (B2 b0 b1) h h' → Q h') : DCall prog 19 #[pt b0, pt b1] (some (flt e)) h Q := by
  refine dcall_of_WD func19 rfl rfl (by kernel_rfl) (by decide) (by simp [ntmps19]) ?_
  have N1 := Keeps.new H 42 [.int .i64 0]
  have V2 := Var.new (e := 42) H (cs := [.int .i64 0])
  obtain ⟨h2, e2, V2', C2, z2⟩ := V2.store (P := prog) (t := 42) (v := .agg #[.int .i64 e]) (i := 0) (Ch.wf N1) asz42 (by simp [Value.cells]) (by simp [Value.cells, one])
  have V2'' : Var h2 h.size [.int .i64 e] := V2'
  have K2 : Keeps h h2 := N1.step C2 fun b e => by omega
  have hl0 := V0.lt H
  have hl1 := V1.lt H
  have V02 := Keeps.var H K2 V0
  have V12 := Keeps.var H K2 V1
  obtain ⟨h3, e3, V03, C3, z3⟩ := V02.put (Ch.wf K2) (d := rc0) rfl rfl
  have V13 := Ch.var (Ch.wf K2) C3 V12 (by omega)
  have V23 := Ch.var (Ch.wf K2) C3 V2'' (by omega)
  obtain ⟨h4, e4, V14, C4, z4⟩ := V13.store1 (P := prog) (t := 27) (v := .int .i64 e) (i := 0) (Ch.wf C3) asz27 (by simp) rfl
  have V04 := Ch.var (Ch.wf C3) C4 V03 hne
  have L2 := V2''.load1 (P := prog) (t := 27) underlying27 rfl (i := 0)
  have L3 := V23.load1 (P := prog) (t := 27) underlying27 rfl (i := 0)
  simp only [List.getElem?_cons_zero] at L2 L3
  have asf : ∀ {tm : Tm} {x : Nat} {xt : TypeId}, tm x = flt e → assertV prog tm (.typeAssert (.tmp x) xt 42 true) = some (.tuple #[.agg #[.int .i64 e], .bool true]) := fun h => assert_flt h
  have CC : Ch (B2 b0 b1) h h4 := ((K2.mono (D' := B2 b0 b1) fun _ e => e.elim).then C3 fun b e => .inr (.inl e)).then C4 fun b e => .inr (.inr e)
  have kk := K h4 V04 V14 CC
  simp only [wk, wt, wl, ↓reduceIte, Nat.reduceEqDiff, Nat.reduceAdd, Nat.zero_add, not_false_eq_true, not_true_eq_false, wd, neq_flt, Option.getD_some, assertV, underlying42, flt, pt, e2]
  refine WD_draw (.two 0 1 (.two 1 3 (.two 2 3 (.one 3 (.one 4 .nil)) (.one 2 (.one 4 .nil))) (.one 1 (.one 2 (.one 4 .nil)))) (.two 0 2 (.two 2 3 (.one 3 (.one 4 .nil)) (.one 2 (.one 4 .nil))) (.one 0 (.one 3 (.one 4 .nil))))) mixed (by kernel_rfl) (by kernel_rfl) ?_
  simp only [wk, wt, wl, ↓reduceIte, Nat.reduceEqDiff, Nat.reduceAdd, Nat.zero_add, not_false_eq_true, not_true_eq_false, we, build_re0, pt, L2, L3, e3, e4, and_self]
  exact ⟨.inl trivial, kk⟩
theorem resOf_cc {P : Program} {h : Heap} {tm : Tm} {t a u b : Nat} : resOf P h tm #[.cell a t, .cell b u] = tupV (cellV P h t (tm a)) (cellV P h u (tm b)) := by
  show (match resList P h tm [.cell a t, .cell b u] with | some l => some (Value.tuple l.toArray) | none => none) = _
  simp only [resList, resV_cell]
  cases cellV P h t (tm a) <;> cases cellV P h u (tm b) <;> rfl
/-- A pattern read, or none and what is wrong. -/
def parseR (l : List Int) : Pat × Int := match parseM l with
  | .ok p => (p, 0)
  | .error e => (pE, e)
theorem parseM_ok {l : List Int} {p : Pat} (hl : l.length ≤ 10000000) (h : parseM l = .ok p) : PatOk p ∧ sizeM p ≤ 400 := by
  unfold parseM at h
  split at h
  · cases h
  · rename_i q t g ha
    split at h
    · cases h
    · split at h
      · cases h
      · cases h
        exact ⟨altM_ok (grpM_ok 16) (grpM_GL 16) hl ha, by omega⟩
theorem parse_ok {h : Heap} {pv : Value} {l : List Int} (S : RdI prog h .i32 pv l) (hl : l.length ≤ 10000000) (h32 : I32 l) :
    ACalls prog 8 #[pv] h (fun y h' => ∃ c, y = .tuple #[reV c, .int .i64 (parseR l).2] ∧ ReR h' (Lt h.size) (parseR l).1 c ∧ Keeps h h') := by
  refine ACallsX.wf fun H => ?_
  refine acalls_defer (capv := #[pt h.size, pt (h.size + 1)]) func8 rfl (by kernel_rfl) (by kernel_rfl) (by kernel_rfl) (by decide) (by kernel_rfl) (by simp [ntmps8]) (by kernel_rfl) ?_
  have N1 := Keeps.new H 26 (reC rc0)
  have V1 := Var.new (e := 26) H (cs := reC rc0)
  have N2 := Keeps.new (Ch.wf N1) 27 [.int .i64 0]
  have V2 := Var.new (e := 27) (Ch.wf N1) (cs := [.int .i64 0])
  have N3 := Keeps.new (Ch.wf N2) 46 [pv, .int .i64 0, .int .i64 0]
  have V3 := Var.new (e := 46) (Ch.wf N2) (cs := [pv, .int .i64 0, .int .i64 0])
  have V13 := Keeps.var (Ch.wf N2) N3 (Keeps.var (Ch.wf N1) N2 V1)
  have V23 := Keeps.var (Ch.wf N2) N3 V2
  have K3 := (N1.trans N2).trans N3
  have S3 := S.keeps K3
  have ov : one pv = true := Rd.one S
  have bR : abuild prog 46 #[(0, pv)] = some (.agg #[pv, .int .i64 0, .int .i64 0]) := by simp [abuild, wt, aplaces, Instr.fill, one_cells ov, ov]; rfl
  have bxR : ∀ hh : Heap, boxV prog hh 46 (.agg #[pv, .int .i64 0, .int .i64 0]) = some (.pointer (some ⟨hh.size, 0, none⟩), hh.new 46 [pv, .int .i64 0, .int .i64 0]) := fun hh => by simp [boxV, asz46, Value.cells, ov, one_int]
  obtain ⟨pb, hpb, hpn, hps⟩ : ∃ pb, (∀ b, blkOf pv = some b → b = pb) ∧ pb ≠ h.size + 2 ∧ pb ≠ h.size ∧ pb < h.size + 2 := by
    cases hb : blkOf pv with
    | none => exact ⟨h.size + 1, (fun b e => by cases e), by omega, by omega, by omega⟩
    | some b => have := (Rd.blk_lt S hb).1; exact ⟨b, (fun x e => by cases e; rfl), by omega, by omega, by omega⟩
  have hz2 : ((h.new 26 (reC rc0)).new 27 [.int .i64 0]).size = h.size + 2 := rfl
  rw [hz2] at V3
  have R3 : RD (((h.new 26 (reC rc0)).new 27 [.int .i64 0]).new 46 [pv, .int .i64 0, .int .i64 0]) (h.size + 2) pb l 0 (16 - ((16 : Nat) : Int)) := ⟨pv, V3, S3, hpb, hpn, by show pb < h.size + 3; omega⟩
  have A := alts_all 16 (by omega) _ _ _ l 0 R3 ⟨by omega, by omega, h32⟩
  have hM : parseR l = (match altM (grpM 16) l 0 with
    | .error e => (pE, e)
    | .ok (p, t, _) => if 0 < t.length then (pE, 10) else if 400 < sizeM p then (pE, 12) else (p, 0)) := by
    unfold parseR parseM
    cases altM (grpM 16) l 0 with
    | error e => rfl
    | ok x =>
      obtain ⟨p, t, g⟩ := x
      simp only
      by_cases c1 : 0 < t.length
      · rw [if_pos c1, if_pos c1]
      · rw [if_neg c1, if_neg c1]
        by_cases c2 : 400 < sizeM p
        · rw [if_pos c2, if_pos c2]
        · rw [if_neg c2, if_neg c2]
  simp only [wk, wt, wl, ↓reduceIte, Nat.reduceEqDiff, Nat.reduceAdd, Nat.zero_add, not_false_eq_true, not_true_eq_false, newRe, newSz, pt, bR, aeff_box, bxR]
  refine A.ok ?_ ?_
  · intro p t g' c h4 hp P4 R4 C4
    rw [hp] at hM
    simp only at hM
    have V14 := Ch.var (Ch.wf N3) C4 V13 (by omega)
    have V24 := Ch.var (Ch.wf N3) C4 V23 (by show ¬ ((h.new 26 (reC rc0)).size = h.size + 2); show ¬ (h.size + 1 = h.size + 2); omega)
    have V24' : Var h4 (h.size + 1) [.int .i64 0] := V24
    have hz4 : h.size + 3 ≤ h4.size := Ch.le C4
    obtain ⟨h5, e5, V15, C5, z5⟩ := V14.put (Ch.wf C4) (d := c) P4.one1.1 P4.one1.2
    have V25 := Ch.var (Ch.wf C4) C5 V24' (by omega)
    have R5 := R4.ch (Ch.wf C4) C5 (by omega) (by omega)
    have P5 : ReR h5 (Lt (h.size + 3)) p c := ReR.ch C5 (fun b e => by show b < _; omega) p c P4
    have K5 : Keeps h h5 := (K3.step C4 fun b e => by have : b = h.size + 2 := e; omega).step C5 fun b e => by omega
    obtain ⟨rv5, RV5, S5, _⟩ := id R5
    have L5 := RV5.ld.1
    have L1 := fun {hq : Heap} {x : Int} (V : Var hq (h.size + 1) [.int .i64 x]) => V.load1 (P := prog) (t := 27) underlying27 rfl (i := 0)
    simp only [List.getElem?_cons_zero] at L1
    have LN5 := S5.ln (n := (t.length : Int)) rfl
    by_cases c1 : 0 < t.length
    · have d1 : decide (0 < (t.length : Int)) = true := decide_eq_true (by omega)
      rw [if_pos c1] at hM
      obtain ⟨h6, e6, V16, C6, z6⟩ := V15.put (Ch.wf C5) (d := rc0) rfl rfl
      obtain ⟨h7, e7, V27, C7, z7⟩ := (Ch.var (Ch.wf C5) C6 V25 (by omega)).store1 (P := prog) (t := 27) (v := .int .i64 10) (i := 0) (Ch.wf C6) asz27 (by simp) rfl
      have V17 := Ch.var (Ch.wf C6) C7 V16 (by omega)
      simp only [List.set_cons_zero] at V27
      have K7 : Keeps h h7 := (K5.step C6 fun b e => by omega).step C7 fun b e => by omega
      simp only [wk, wt, wl, ↓reduceIte, Nat.reduceEqDiff, Nat.reduceAdd, Nat.zero_add, not_false_eq_true, not_true_eq_false, pt, newSz, e5, L5, LN5, d1, build_re0, e6, e7, deferK_ret]
      refine dc_none ?_
      show optV (resOf prog _ _ #[.cell 2 _, .cell 3 _]) _
      simp only [wk, wt, wl, ↓reduceIte, Nat.reduceEqDiff, Nat.reduceAdd, Nat.zero_add, not_false_eq_true, not_true_eq_false, resOf_cc, V17.re, L1 V27]
      exact ⟨rc0, by rw [hM], by rw [hM]; exact ReR.e, K7⟩
    · have d1 : decide (0 < (t.length : Int)) = false := decide_eq_false (by omega)
      rw [if_neg c1] at hM
      simp only [wk, wt, wl, ↓reduceIte, Nat.reduceEqDiff, Nat.reduceAdd, Nat.zero_add, not_false_eq_true, not_true_eq_false, pt, newSz, e5, L5, LN5, d1, V15.re]
      refine (size_all _ p c h5 _ (Nat.lt_succ_self _) (altM_ok (grpM_ok 16) (grpM_GL 16) hl hp) P5).use ?_
      rintro _ h6 ⟨rfl, K6⟩
      have V16 := Keeps.var (Ch.wf C5) K6 V15
      have V26 := Keeps.var (Ch.wf C5) K6 V25
      have P6 := ReR.ch K6 (fun _ e => e.elim) p c P5
      have K06 := K5.trans K6
      have hz6 := Ch.le K6
      by_cases c2 : 400 < sizeM p
      · have d2 := decide_eq_true c2
        rw [if_pos c2] at hM
        obtain ⟨h7, e7, V17, C7, z7⟩ := V16.put (Ch.wf K6) (d := rc0) rfl rfl
        obtain ⟨h8, e8, V28, C8, z8⟩ := (Ch.var (Ch.wf K6) C7 V26 (by omega)).store1 (P := prog) (t := 27) (v := .int .i64 12) (i := 0) (Ch.wf C7) asz27 (by simp) rfl
        have V18 := Ch.var (Ch.wf C7) C8 V17 (by omega)
        simp only [List.set_cons_zero] at V28
        have K8 : Keeps h h8 := (K06.step C7 fun b e => by omega).step C8 fun b e => by omega
        simp only [wk, wt, wl, ↓reduceIte, Nat.reduceEqDiff, Nat.reduceAdd, Nat.zero_add, not_false_eq_true, not_true_eq_false, pt, newSz, d2, build_re0, e7, e8, deferK_ret]
        refine dc_none ?_
        show optV (resOf prog _ _ #[.cell 2 _, .cell 3 _]) _
        simp only [wk, wt, wl, ↓reduceIte, Nat.reduceEqDiff, Nat.reduceAdd, Nat.zero_add, not_false_eq_true, not_true_eq_false, resOf_cc, V18.re, L1 V28]
        exact ⟨rc0, by rw [hM], by rw [hM]; exact ReR.e, K8⟩
      · have d2 := decide_eq_false c2
        rw [if_neg c2] at hM
        obtain ⟨h7, e7, V17, C7, z7⟩ := V16.put (Ch.wf K6) (d := c) P4.one1.1 P4.one1.2
        obtain ⟨h8, e8, V28, C8, z8⟩ := (Ch.var (Ch.wf K6) C7 V26 (by omega)).store1 (P := prog) (t := 27) (v := .int .i64 0) (i := 0) (Ch.wf C7) asz27 (by simp) rfl
        have V18 := Ch.var (Ch.wf C7) C8 V17 (by omega)
        simp only [List.set_cons_zero] at V28
        have K8 : Keeps h h8 := (K06.step C7 fun b e => by omega).step C8 fun b e => by omega
        have P8 := ReR.ch C8 (fun b e => by show b < _; omega) p c (ReR.ch C7 (fun b e => by show b < _; omega) p c P6)
        simp only [wk, wt, wl, ↓reduceIte, Nat.reduceEqDiff, Nat.reduceAdd, Nat.zero_add, not_false_eq_true, not_true_eq_false, pt, newSz, d2, V16.re, e7, e8, deferK_ret]
        refine dc_none ?_
        show optV (resOf prog _ _ #[.cell 2 _, .cell 3 _]) _
        simp only [wk, wt, wl, ↓reduceIte, Nat.reduceEqDiff, Nat.reduceAdd, Nat.zero_add, not_false_eq_true, not_true_eq_false, resOf_cc, V18.re, L1 V28]
        exact ⟨c, by rw [hM], by rw [hM]; exact ReR.weak (fun b e => by show b < _; have : b < h.size := e; omega) p c P8, K8⟩
  · intro e h4 hp C4
    rw [hp] at hM
    simp only at hM
    have V14 := Ch.var (Ch.wf N3) C4 V13 (by omega)
    have V24 := Ch.var (Ch.wf N3) C4 V23 (by show ¬ (h.size + 1 = h.size + 2); omega)
    have V24' : Var h4 (h.size + 1) [.int .i64 0] := V24
    have L1 := fun {hq : Heap} {x : Int} (V : Var hq (h.size + 1) [.int .i64 x]) => V.load1 (P := prog) (t := 27) underlying27 rfl (i := 0)
    simp only [List.getElem?_cons_zero] at L1
    simp only [wk, wt, wl, ↓reduceIte, Nat.reduceEqDiff, Nat.reduceAdd, Nat.zero_add, not_false_eq_true, not_true_eq_false, deferK_raised]
    refine dc_some (Ch.wf C4) V14 V24' (by omega) fun h5 W1 W2 C5 => ?_
    show optV (resOf prog _ _ #[.cell 2 _, .cell 3 _]) _
    simp only [wk, wt, wl, ↓reduceIte, Nat.reduceEqDiff, Nat.reduceAdd, Nat.zero_add, not_false_eq_true, not_true_eq_false, resOf_cc, pt, W1.re, L1 W2]
    exact ⟨rc0, by rw [hM], by rw [hM]; exact ReR.e, (K3.step C4 fun b e => by have : b = h.size + 2 := e; omega).step C5 fun b e => by rcases e with e | e <;> omega⟩
end Go.Proofs.Ytnnkcbkenofhmaa.Am
end
section
/- Patterns: equal ones are the same by the document; by a walk. -/
set_option linter.unusedSimpArgs false
set_option linter.unusedVariables false
set_option maxHeartbeats 4000000
set_option maxRecDepth 20000
namespace Go.Proofs.Ytnnkcbkenofhmaa.Am
open Go Go.RowKit Go.Proofs.Try
theorem stood_sp : prog.stoodInHeld 50 = false := by kernel_rfl
theorem guard_sp : prog.eqGuardType prog.depth 50 = false := by kernel_rfl
theorem neq_sp {x y : Int} : abin prog .neq 50 (.agg #[.int .i64 x, .int .i64 y]) (.agg #[.int .i64 x, .int .i64 y]) = some (.bool false) := by
  simp [abin, aeq, underlying50, stood_sp, guard_sp, aeqF, apart, aeq1, wt, isAggD]
theorem neq_bool {b : Bool} : abin prog .neq 4 (.bool b) (.bool b) = some (.bool false) := by simp [abin, aeq, underlying4]
theorem same_all : ∀ (m : Nat) (p : Pat) (c d : RC) (h : Heap) (D E : Nat → Prop), SizeOf.sizeOf p < m → PatOk p → ReR h D p c → ReR h E p d → ACalls prog 10 #[reV c, reV d] h (fun y h' => y = .bool true ∧ Keeps h h')
  | 0, p, c, d, h, D, E, hm, _, _, _ => by omega
  | m + 1, p, c, d, h, D, E, hm, hok, P, P' => by
    refine acalls_of_W' func10 rfl (by kernel_rfl) (by kernel_rfl) (by simp [ntmps10]) ?_
    intro H
    obtain ⟨k, r, set, nt, lo, hi, ps⟩ := p
    have P0 := P
    have P0' := P'
    simp only [ReR] at P P'
    obtain ⟨p1, p2, p3, p4, p5, p6, p7, p8, l, PS, PR⟩ := P
    obtain ⟨q1, q2, q3, q4, q5, q6, q7, q8, l', PS', PR'⟩ := P'
    have N1 := Keeps.new H 26 (reC c)
    have V1 := Var.new (e := 26) H (cs := reC c)
    have N2 := Keeps.new (Ch.wf N1) 26 (reC d)
    have V2 := Var.new (e := 26) (Ch.wf N1) (cs := reC d)
    have V12 := Keeps.var (Ch.wf N1) N2 V1
    have hz1 : (h.new 26 (reC c)).size = h.size + 1 := rfl
    rw [hz1] at V2
    have hll := PR.len
    have hll' := PR'.len
    have K0 := N1.trans N2
    have AK : ∀ {hh : Heap}, Var hh h.size (reC c) → aload prog hh 3 ⟨h.size, 0, none⟩ = some (.int .i64 k) := fun V => by rw [← p1]; exact V.load1 (P := prog) (t := 3) underlying3 rfl (i := 0)
    have AR : ∀ {hh : Heap}, Var hh h.size (reC c) → aload prog hh 21 ⟨h.size, 1, none⟩ = some (.int .i32 r) := fun V => by rw [← p2]; exact V.load1 (P := prog) (t := 21) underlying21 rfl (i := 1)
    have AS : ∀ {hh : Heap}, Var hh h.size (reC c) → aload prog hh 23 ⟨h.size, 2, none⟩ = some c.sv := fun V => V.load1 (P := prog) (t := 23) underlying23 rfl (i := 2)
    have AN : ∀ {hh : Heap}, Var hh h.size (reC c) → aload prog hh 4 ⟨h.size, 3, none⟩ = some (.bool nt) := fun V => by rw [← p3]; exact V.load1 (P := prog) (t := 4) underlying4 rfl (i := 3)
    have AL : ∀ {hh : Heap}, Var hh h.size (reC c) → aload prog hh 3 ⟨h.size, 4, none⟩ = some (.int .i64 lo) := fun V => by rw [← p4]; exact V.load1 (P := prog) (t := 3) underlying3 rfl (i := 4)
    have AH : ∀ {hh : Heap}, Var hh h.size (reC c) → aload prog hh 3 ⟨h.size, 5, none⟩ = some (.int .i64 hi) := fun V => by rw [← p5]; exact V.load1 (P := prog) (t := 3) underlying3 rfl (i := 5)
    have AP : ∀ {hh : Heap}, Var hh h.size (reC c) → aload prog hh 24 ⟨h.size, 6, none⟩ = some c.pv := fun V => V.load1 (P := prog) (t := 24) underlying24 rfl (i := 6)
    have BK : ∀ {hh : Heap}, Var hh (h.size + 1) (reC d) → aload prog hh 3 ⟨(h.size + 1), 0, none⟩ = some (.int .i64 k) := fun V => by rw [← q1]; exact V.load1 (P := prog) (t := 3) underlying3 rfl (i := 0)
    have BR : ∀ {hh : Heap}, Var hh (h.size + 1) (reC d) → aload prog hh 21 ⟨(h.size + 1), 1, none⟩ = some (.int .i32 r) := fun V => by rw [← q2]; exact V.load1 (P := prog) (t := 21) underlying21 rfl (i := 1)
    have BS : ∀ {hh : Heap}, Var hh (h.size + 1) (reC d) → aload prog hh 23 ⟨(h.size + 1), 2, none⟩ = some d.sv := fun V => V.load1 (P := prog) (t := 23) underlying23 rfl (i := 2)
    have BN : ∀ {hh : Heap}, Var hh (h.size + 1) (reC d) → aload prog hh 4 ⟨(h.size + 1), 3, none⟩ = some (.bool nt) := fun V => by rw [← q3]; exact V.load1 (P := prog) (t := 4) underlying4 rfl (i := 3)
    have BL : ∀ {hh : Heap}, Var hh (h.size + 1) (reC d) → aload prog hh 3 ⟨(h.size + 1), 4, none⟩ = some (.int .i64 lo) := fun V => by rw [← q4]; exact V.load1 (P := prog) (t := 3) underlying3 rfl (i := 4)
    have BH : ∀ {hh : Heap}, Var hh (h.size + 1) (reC d) → aload prog hh 3 ⟨(h.size + 1), 5, none⟩ = some (.int .i64 hi) := fun V => by rw [← q5]; exact V.load1 (P := prog) (t := 3) underlying3 rfl (i := 5)
    have BP : ∀ {hh : Heap}, Var hh (h.size + 1) (reC d) → aload prog hh 24 ⟨(h.size + 1), 6, none⟩ = some d.pv := fun V => V.load1 (P := prog) (t := 24) underlying24 rfl (i := 6)
    simp only [PatOk] at hok
    generalize hh2 : (h.new 26 (reC c)).new 26 (reC d) = h2 at K0 V12 V2
    have LS := fun {hh : Heap} (K : Keeps h hh) => RS.len (RS.keeps p6 K) underlying23
    have LS' := fun {hh : Heap} (K : Keeps h hh) => RS.len (RS.keeps q6 K) underlying23
    have LP := fun {hh : Heap} (K : Keeps h hh) => RS.len (RS.keeps PS K) underlying24
    have LP' := fun {hh : Heap} (K : Keeps h hh) => RS.len (RS.keeps PS' K) underlying24
    rw [hll] at LP
    rw [hll'] at LP'
    have dk : ∀ x : Int, decide (¬ x = x) = false := fun x => by simp
    simp only [wk, wt, wl, ↓reduceIte, Nat.reduceEqDiff, Nat.reduceAdd, Nat.zero_add, not_false_eq_true, not_true_eq_false, pt, aeff_box, boxRe P0.one1.1 P0.one1.2, newSz, hh2, boxRe (h := h.new 26 (reC c)) P0'.one1.1 P0'.one1.2, AK V12, BK V2, AR V12, BR V2, AN V12, BN V2, AL V12, BL V2, AH V12, BH V2, AS V12, BS V2, AP V12, BP V2, LS K0, LS' K0, LP K0, LP' K0, dk, neq_bool]
    refine W_loop (fun tm hh => h2 = hh ∧ tm 2 = pt h.size ∧ tm 3 = pt (h.size + 1) ∧ ∃ i : Nat, tm 5 = .int .i64 (i : Int) ∧ i ≤ set.length) (fun tm _ => (set.length - intOf (tm 5)).toNat) ⟨rfl, (by first | rfl | (simp only [wk, wt, wl, ↓reduceIte, Nat.reduceEqDiff, Nat.reduceAdd, Nat.zero_add, not_false_eq_true, not_true_eq_false]; done) | (simp only [wk, wt, wl, ↓reduceIte, Nat.reduceEqDiff, Nat.reduceAdd, Nat.zero_add, not_false_eq_true, not_true_eq_false]; rfl) | (simp only [wk, wt, wl, ↓reduceIte, Nat.reduceEqDiff, Nat.reduceAdd, Nat.zero_add, not_false_eq_true, not_true_eq_false, pt]; done) | (simp only [wk, wt, wl, ↓reduceIte, Nat.reduceEqDiff, Nat.reduceAdd, Nat.zero_add, not_false_eq_true, not_true_eq_false, pt]; rfl)), (by first | rfl | (simp only [wk, wt, wl, ↓reduceIte, Nat.reduceEqDiff, Nat.reduceAdd, Nat.zero_add, not_false_eq_true, not_true_eq_false]; done) | (simp only [wk, wt, wl, ↓reduceIte, Nat.reduceEqDiff, Nat.reduceAdd, Nat.zero_add, not_false_eq_true, not_true_eq_false]; rfl) | (simp only [wk, wt, wl, ↓reduceIte, Nat.reduceEqDiff, Nat.reduceAdd, Nat.zero_add, not_false_eq_true, not_true_eq_false, pt]; done) | (simp only [wk, wt, wl, ↓reduceIte, Nat.reduceEqDiff, Nat.reduceAdd, Nat.zero_add, not_false_eq_true, not_true_eq_false, pt]; rfl)), 0, (by first | rfl | (simp only [wk, wt, wl, ↓reduceIte, Nat.reduceEqDiff, Nat.reduceAdd, Nat.zero_add, not_false_eq_true, not_true_eq_false]; done) | (simp only [wk, wt, wl, ↓reduceIte, Nat.reduceEqDiff, Nat.reduceAdd, Nat.zero_add, not_false_eq_true, not_true_eq_false]; rfl)), by omega⟩ ?_
    rintro tm _ ⟨rfl, t2, t3, i, t5, hi1⟩
    simp only [wk, wt, wl, ↓reduceIte, Nat.reduceEqDiff, Nat.reduceAdd, Nat.zero_add, not_false_eq_true, not_true_eq_false, t2, t3, t5, pt, AS V12, LS K0]
    refine condK_dec (fun hd => ?_) (fun hd => ?_)
    · have hi2 : i < set.length := by omega
      obtain ⟨x, hx⟩ : ∃ x, set[i]? = some x := ⟨_, List.getElem?_eq_getElem hi2⟩
      have IX := Rd.index (RS.keeps p6 K0) underlying23 asz50 (q := .i64) (i := (i : Int)) (by omega) (by omega)
      have IY := Rd.index (RS.keeps q6 K0) underlying23 asz50 (q := .i64) (i := (i : Int)) (by omega) (by omega)
      rw [Int.toNat_natCast] at IX IY
      have LX : aload prog h2 50 (eltA c.sv 2 i) = some (.agg #[.int .i64 x.1, .int .i64 x.2]) := RS.agg (RS.keeps p6 K0) spC_len underlying50 rfl asz50 hx
      have LY : aload prog h2 50 (eltA d.sv 2 i) = some (.agg #[.int .i64 x.1, .int .i64 x.2]) := RS.agg (RS.keeps q6 K0) spC_len underlying50 rfl asz50 hx
      have wi : IntKind.i64.wrap ((i : Int) + 1) = ((i + 1 : Nat) : Int) := by rw [IntWalk.i64_in _ (by have := hok.2.1.2; omega)]; omega
      refine adraw_order [(0, false), (1, false), (2, false), (3, false), (4, false), (5, false), (6, false), (7, false), (8, false), (9, false), (10, false)] mixed (by kernel_rfl) (by kernel_rfl) (by kernel_rfl) (by with_reducible repeat (first | exact PF_retK | refine PF_thenK ?_ | refine PF_blockK ?_)) ?_
      simp only [wk, wt, wl, ↓reduceIte, Nat.reduceEqDiff, Nat.reduceAdd, Nat.zero_add, not_false_eq_true, not_true_eq_false, t2, t3, t5, pt, AS V12, BS V2, IX, IY, LX, LY, neq_sp, wi, intOf_int]
      exact ⟨⟨i + 1, rfl, by omega⟩, by omega⟩
    · simp only [wk, wt, wl, ↓reduceIte, Nat.reduceEqDiff, Nat.reduceAdd, Nat.zero_add, not_false_eq_true, not_true_eq_false]
      refine W_loop (fun tm hh => Keeps h2 hh ∧ tm 2 = pt h.size ∧ tm 3 = pt (h.size + 1) ∧ ∃ i : Nat, tm 6 = .int .i64 (i : Int) ∧ i ≤ ps.length) (fun tm _ => (ps.length - intOf (tm 6)).toNat) ⟨Keeps.refl (Ch.wf K0), (by first | rfl | (simp only [wk, wt, wl, ↓reduceIte, Nat.reduceEqDiff, Nat.reduceAdd, Nat.zero_add, not_false_eq_true, not_true_eq_false]; done) | (simp only [wk, wt, wl, ↓reduceIte, Nat.reduceEqDiff, Nat.reduceAdd, Nat.zero_add, not_false_eq_true, not_true_eq_false]; rfl) | (simp only [wk, wt, wl, ↓reduceIte, Nat.reduceEqDiff, Nat.reduceAdd, Nat.zero_add, not_false_eq_true, not_true_eq_false, t2]; done) | (simp only [wk, wt, wl, ↓reduceIte, Nat.reduceEqDiff, Nat.reduceAdd, Nat.zero_add, not_false_eq_true, not_true_eq_false, t2]; rfl)), (by first | rfl | (simp only [wk, wt, wl, ↓reduceIte, Nat.reduceEqDiff, Nat.reduceAdd, Nat.zero_add, not_false_eq_true, not_true_eq_false]; done) | (simp only [wk, wt, wl, ↓reduceIte, Nat.reduceEqDiff, Nat.reduceAdd, Nat.zero_add, not_false_eq_true, not_true_eq_false]; rfl) | (simp only [wk, wt, wl, ↓reduceIte, Nat.reduceEqDiff, Nat.reduceAdd, Nat.zero_add, not_false_eq_true, not_true_eq_false, t3]; done) | (simp only [wk, wt, wl, ↓reduceIte, Nat.reduceEqDiff, Nat.reduceAdd, Nat.zero_add, not_false_eq_true, not_true_eq_false, t3]; rfl)), 0, (by first | rfl | (simp only [wk, wt, wl, ↓reduceIte, Nat.reduceEqDiff, Nat.reduceAdd, Nat.zero_add, not_false_eq_true, not_true_eq_false]; done) | (simp only [wk, wt, wl, ↓reduceIte, Nat.reduceEqDiff, Nat.reduceAdd, Nat.zero_add, not_false_eq_true, not_true_eq_false]; rfl)), by omega⟩ ?_
      clear t2 t3 t5 hd
      rintro tm hh ⟨K, t2, t3, j, t6, hj1⟩
      have K1 := K0.trans K
      have W1 := Keeps.var (Ch.wf K0) K V12
      have W2 := Keeps.var (Ch.wf K0) K V2
      simp only [wk, wt, wl, ↓reduceIte, Nat.reduceEqDiff, Nat.reduceAdd, Nat.zero_add, not_false_eq_true, not_true_eq_false, t2, t3, t6, pt, AP W1, LP K1]
      refine condK_dec (fun hd => ?_) (fun hd => ?_)
      · have hj2 : j < ps.length := by omega
        obtain ⟨p', hp'⟩ : ∃ p', ps[j]? = some p' := ⟨_, List.getElem?_eq_getElem hj2⟩
        obtain ⟨c', hc', Q⟩ := (RePs.ch K1 (fun _ e => e.elim) ps l PR).at hp'
        obtain ⟨d', hd', Q'⟩ := (RePs.ch K1 (fun _ e => e.elim) ps l' PR').at hp'
        have IX := Rd.index (RS.keeps PS K1) underlying24 asz26 (q := .i64) (i := (j : Int)) (by omega) (by omega)
        have IY := Rd.index (RS.keeps PS' K1) underlying24 asz26 (q := .i64) (i := (j : Int)) (by omega) (by omega)
        rw [Int.toNat_natCast] at IX IY
        have LX : aload prog hh 26 (eltA c.pv 7 j) = some (reV c') := RS.agg (RS.keeps PS K1) reC_len underlying26 rfl asz26 hc'
        have LY : aload prog hh 26 (eltA d.pv 7 j) = some (reV d') := RS.agg (RS.keeps PS' K1) reC_len underlying26 rfl asz26 hd'
        have wi : IntKind.i64.wrap ((j : Int) + 1) = ((j + 1 : Nat) : Int) := by rw [IntWalk.i64_in _ (by have := hok.2.1.1; omega)]; omega
        refine adraw_order [(0, false), (1, false), (2, false), (3, false), (4, false), (5, false), (6, false), (7, false), (8, false), (9, false), (10, true), (11, false)] mixed (by kernel_rfl) (by kernel_rfl) (by kernel_rfl) (by with_reducible repeat (first | exact PF_retK | refine PF_thenK ?_ | refine PF_blockK ?_)) ?_
        simp only [wk, wt, wl, ↓reduceIte, Nat.reduceEqDiff, Nat.reduceAdd, Nat.zero_add, not_false_eq_true, not_true_eq_false, t2, t3, t6, pt, AP W1, BP W2, IX, IY, LX, LY]
        refine (same_all m p' c' d' hh D E (by have := pat_lt (k := k) (r := r) (s := set) (nt := nt) (lo := lo) (hi := hi) hp'; omega) (hok.2.2.at hp') Q Q').use ?_
        rintro _ h4 ⟨rfl, K4⟩
        simp only [wk, wt, wl, ↓reduceIte, Nat.reduceEqDiff, Nat.reduceAdd, Nat.zero_add, not_false_eq_true, not_true_eq_false, dK_t]
        refine ⟨Keeps.reads (Ch.wf K1) K4, ?_⟩
        simp only [wk, wt, wl, ↓reduceIte, Nat.reduceEqDiff, Nat.reduceAdd, Nat.zero_add, not_false_eq_true, not_true_eq_false, t2, t3, t6, pt, wi, intOf_int]
        exact ⟨⟨K.trans K4, j + 1, rfl, by omega⟩, by omega⟩
      · simp only [wk, wt, wl, ↓reduceIte, Nat.reduceEqDiff, Nat.reduceAdd, Nat.zero_add, not_false_eq_true, not_true_eq_false]
        exact K1
end Go.Proofs.Ytnnkcbkenofhmaa.Am
end
section
/- Patterns: contracts of row and of chapter 7's examples (awake), by walks. -/
set_option linter.unusedSimpArgs false
set_option linter.unusedVariables false
set_option maxHeartbeats 4000000
set_option maxRecDepth 20000
namespace Go.Proofs.Ytnnkcbkenofhmaa.Am
open Go Go.RowKit Go.Proofs.Try
theorem row_ok {h : Heap} {s : ByteArray} {l : List Int} (hr : runesV s = l.map (Value.int .i32)) (hl : l.length ≤ 1000) : ACalls prog 22 #[.string s] h (fun y h' => RdI prog h' .i32 y l ∧ Keeps h h') := by
  refine acalls_of_W' func22 rfl (by kernel_rfl) (by kernel_rfl) (by simp [ntmps22]) ?_
  intro H
  have c1 : aconv prog h 9 22 (.string s) = none := by simp [aconv, underlying9, underlying22]
  have c2 : aconvE prog h 9 22 (.string s) = some (.slice (some ⟨h.size, 0, none⟩) l.length 0, h.new 21 (l.map (Value.int .i32))) := by
    have h1 : (l.map (Value.int .i32)).all constOk = true := by
      rw [List.all_eq_true]; intro x hx; obtain ⟨a, _, rfl⟩ := List.mem_map.1 hx; rfl
    have h2 : (l.map (Value.int .i32)).all one = true := by
      rw [List.all_eq_true]; intro x hx; obtain ⟨a, _, rfl⟩ := List.mem_map.1 hx; rfl
    have h3 : l.length ≤ 70368744177664 := by omega
    simp only [aconvE, underlying9, underlying22, underlying21, asz21, hr, h1, h2, List.length_map, h3, and_self, if_true]
  simp only [wk, wt, wl, ↓reduceIte, Nat.reduceEqDiff, Nat.reduceAdd, Nat.zero_add, not_false_eq_true, not_true_eq_false, c1, c2]
  exact ⟨Rd.new H asz21 (by simp), Keeps.new H _ _⟩
theorem Var.k0 {h : Heap} {b : Nat} {c : RC} (V : Var h b (reC c)) : aload prog h 3 ⟨b, 0, none⟩ = some (.int .i64 c.k) := V.load1 (P := prog) (t := 3) underlying3 rfl (i := 0)
theorem Var.k4 {h : Heap} {b : Nat} {c : RC} (V : Var h b (reC c)) : aload prog h 3 ⟨b, 4, none⟩ = some (.int .i64 c.lo) := V.load1 (P := prog) (t := 3) underlying3 rfl (i := 4)
theorem Var.k5 {h : Heap} {b : Nat} {c : RC} (V : Var h b (reC c)) : aload prog h 3 ⟨b, 5, none⟩ = some (.int .i64 c.hi) := V.load1 (P := prog) (t := 3) underlying3 rfl (i := 5)
theorem Var.k6 {h : Heap} {b : Nat} {c : RC} (V : Var h b (reC c)) : aload prog h 24 ⟨b, 6, none⟩ = some c.pv := V.load1 (P := prog) (t := 24) underlying24 rfl (i := 6)
theorem i32s {l : List Int} (h : (l.all fun x => decide (0 ≤ x ∧ x ≤ 1000)) = true) : I32 l := fun x hx => by
  have := List.all_eq_true.1 h x hx
  simp only [decide_eq_true_eq] at this
  omega
theorem awake_ok {h : Heap} : ACalls prog 9 #[] h (fun y h' => y = .bool true ∧ Keeps h h') := by
  refine acalls_of_W' func9 rfl (by kernel_rfl) (by kernel_rfl) (by simp [ntmps9]) ?_
  intro H
  simp only [wk, wt, wl, ↓reduceIte, Nat.reduceEqDiff, Nat.reduceAdd, Nat.zero_add, not_false_eq_true, not_true_eq_false]
  refine (row_ok (l := [97, 98, 42]) (by kernel_rfl) (by decide)).use ?_
  rintro rv1 ha1 ⟨S1, KA1⟩
  simp only [wk, wt, wl, ↓reduceIte, Nat.reduceEqDiff, Nat.reduceAdd, Nat.zero_add, not_false_eq_true, not_true_eq_false]
  refine (parse_ok S1 (by decide) (i32s (by decide))).use ?_
  rintro _ hb1 ⟨c1, rfl, P1, KB1⟩
  have NN1 := Keeps.new (Ch.wf KB1) 26 (reC rc0)
  obtain ⟨hc1, e1, V1, C1, z1⟩ := (Var.new (e := 26) (Ch.wf KB1) (cs := reC rc0)).put (Ch.wf NN1) (d := c1) P1.one1.1 P1.one1.2
  have KC1 : Keeps hb1 hc1 := NN1.step C1 fun b e => by omega
  have Q1 := ReR.ch KC1 (fun _ e => e.elim) _ _ P1
  simp only [wk, wt, wl, ↓reduceIte, Nat.reduceEqDiff, Nat.reduceAdd, Nat.zero_add, not_false_eq_true, not_true_eq_false, newRe, newSz, e1]
  refine (row_ok (l := [92, 40, 97, 92, 124, 98, 92, 41, 36]) (by kernel_rfl) (by decide)).use ?_
  rintro rv2 ha2 ⟨S2, KA2⟩
  simp only [wk, wt, wl, ↓reduceIte, Nat.reduceEqDiff, Nat.reduceAdd, Nat.zero_add, not_false_eq_true, not_true_eq_false]
  refine (parse_ok S2 (by decide) (i32s (by decide))).use ?_
  rintro _ hb2 ⟨c2, rfl, P2, KB2⟩
  have NN2 := Keeps.new (Ch.wf KB2) 26 (reC rc0)
  obtain ⟨hc2, e2, V2, C2, z2⟩ := (Var.new (e := 26) (Ch.wf KB2) (cs := reC rc0)).put (Ch.wf NN2) (d := c2) P2.one1.1 P2.one1.2
  have KC2 : Keeps hb2 hc2 := NN2.step C2 fun b e => by omega
  have Q2 := ReR.ch KC2 (fun _ e => e.elim) _ _ P2
  simp only [wk, wt, wl, ↓reduceIte, Nat.reduceEqDiff, Nat.reduceAdd, Nat.zero_add, not_false_eq_true, not_true_eq_false, newRe, newSz, e2]
  refine (row_ok (l := [97, 92, 123, 50]) (by kernel_rfl) (by decide)).use ?_
  rintro rv3 ha3 ⟨S3, KA3⟩
  simp only [wk, wt, wl, ↓reduceIte, Nat.reduceEqDiff, Nat.reduceAdd, Nat.zero_add, not_false_eq_true, not_true_eq_false]
  refine (parse_ok S3 (by decide) (i32s (by decide))).use ?_
  rintro _ hb3 ⟨c3, rfl, P3, KB3⟩
  have NN3 := Keeps.new (Ch.wf KB3) 26 (reC rc0)
  obtain ⟨hc3, e3, V3, C3, z3⟩ := (Var.new (e := 26) (Ch.wf KB3) (cs := reC rc0)).put (Ch.wf NN3) (d := c3) P3.one1.1 P3.one1.2
  have KC3 : Keeps hb3 hc3 := NN3.step C3 fun b e => by omega
  have Q3 := ReR.ch KC3 (fun _ e => e.elim) _ _ P3
  simp only [wk, wt, wl, ↓reduceIte, Nat.reduceEqDiff, Nat.reduceAdd, Nat.zero_add, not_false_eq_true, not_true_eq_false, newRe, newSz, e3]
  refine (row_ok (l := [92, 123, 50, 92, 125]) (by kernel_rfl) (by decide)).use ?_
  rintro rv4 ha4 ⟨S4, KA4⟩
  simp only [wk, wt, wl, ↓reduceIte, Nat.reduceEqDiff, Nat.reduceAdd, Nat.zero_add, not_false_eq_true, not_true_eq_false]
  refine (parse_ok S4 (by decide) (i32s (by decide))).use ?_
  rintro _ hb4 ⟨c4, rfl, P4, KB4⟩
  have NN4 := Keeps.new (Ch.wf KB4) 26 (reC rc0)
  obtain ⟨hc4, e4, V4, C4, z4⟩ := (Var.new (e := 26) (Ch.wf KB4) (cs := reC rc0)).put (Ch.wf NN4) (d := c4) P4.one1.1 P4.one1.2
  have KC4 : Keeps hb4 hc4 := NN4.step C4 fun b e => by omega
  have Q4 := ReR.ch KC4 (fun _ e => e.elim) _ _ P4
  simp only [wk, wt, wl, ↓reduceIte, Nat.reduceEqDiff, Nat.reduceAdd, Nat.zero_add, not_false_eq_true, not_true_eq_false, newRe, newSz, e4]
  have M1 : parseR [97, 98, 42] = (.mk 8 0 [] false 0 0 [pR 97, pStar 0 (-1) (pR 98)], 0) := rfl
  have M2 : parseR [92, 40, 97, 92, 124, 98, 92, 41, 36] = (.mk 8 0 [] false 0 0 [pG 1 (.mk 9 0 [] false 0 0 [pR 97, pR 98]), pK 5], 0) := rfl
  have M3 : parseR [97, 92, 123, 50] = (pE, 10) := rfl
  have M4 : parseR [92, 123, 50, 92, 125] = (pE, 11) := rfl
  have K1 : Keeps hc1 hc4 := ((KA2.trans (KB2.trans KC2)).trans (KA3.trans (KB3.trans KC3))).trans (KA4.trans (KB4.trans KC4))
  have K2 : Keeps hc2 hc4 := (KA3.trans (KB3.trans KC3)).trans (KA4.trans (KB4.trans KC4))
  have W1 := Keeps.var (Ch.wf C1) K1 V1
  have W2 := Keeps.var (Ch.wf C2) K2 V2
  have R1 := ReR.ch K1 (fun _ e => e.elim) _ _ Q1
  have R2 := ReR.ch K2 (fun _ e => e.elim) _ _ Q2
  rw [M1] at R1
  rw [M2] at R2
  obtain ⟨a1, _, _, _, _, _, _, _, l1, S1', A1⟩ := R1
  obtain ⟨b1, _, _, _, _, _, _, _, l2, S2', A2⟩ := R2
  have LN1 := RS.len S1' underlying24
  have LN2 := RS.len S2' underlying24
  rw [A1.len] at LN1
  rw [A2.len] at LN2
  have LM1 : abuiltin prog .len #[24] #[c1.pv] = some (.int .i64 2) := LN1
  have LM2 : abuiltin prog .len #[24] #[c2.pv] = some (.int .i64 2) := LN2
  obtain ⟨x1, hx1, X1⟩ := A1.at (i := 1) rfl
  obtain ⟨y0, hy0, Y0⟩ := A2.at (i := 0) rfl
  obtain ⟨y1, hy1, Y1⟩ := A2.at (i := 1) rfl
  have FX1 := RS.fld S1' reC_len (t := 3) underlying3 rfl hx1 (j := 0) (by omega)
  have FY0 := RS.fld S2' reC_len (t := 3) underlying3 rfl hy0 (j := 4) (by omega)
  have FY1 := RS.fld S2' reC_len (t := 3) underlying3 rfl hy1 (j := 0) (by omega)
  have IX1 : aindexAddr prog 24 c1.pv (.int .i64 1) = some (.pointer (some (eltA c1.pv 7 1))) := Rd.index S1' underlying24 asz26 (q := .i64) (i := 1) (by omega) (by rw [A1.len]; decide)
  have IY0 : aindexAddr prog 24 c2.pv (.int .i64 0) = some (.pointer (some (eltA c2.pv 7 0))) := Rd.index S2' underlying24 asz26 (q := .i64) (i := 0) (by omega) (by rw [A2.len]; decide)
  have IY1 : aindexAddr prog 24 c2.pv (.int .i64 1) = some (.pointer (some (eltA c2.pv 7 1))) := Rd.index S2' underlying24 asz26 (q := .i64) (i := 1) (by omega) (by rw [A2.len]; decide)
  have k1 : c1.k = 8 := a1
  have x1k : x1.k = 10 := X1.kind
  have y1k : y1.k = 5 := Y1.kind
  have y0l : y0.lo = 1 := Y0.2.2.2.1
  simp only [reC, List.getElem?_cons_succ, List.getElem?_cons_zero] at FX1 FY0 FY1
  rw [x1k] at FX1
  rw [y0l] at FY0
  rw [y1k] at FY1
  have LK1 := W1.k0
  rw [k1] at LK1
  simp only [wk, wt, wl, ↓reduceIte, Nat.reduceEqDiff, Nat.reduceAdd, Nat.zero_add, not_false_eq_true, not_true_eq_false, M1, M2, M3, M4, LK1, W1.k6, W2.k6, LM1, LM2, IX1, IY0, IY1, FX1, FY0, FY1, List.length_cons, List.length_nil]
  exact (KA1.trans (KB1.trans KC1)).trans K1
end Go.Proofs.Ytnnkcbkenofhmaa.Am
end
section
/- PatGroups told of abstract memory. -/
set_option linter.unusedSimpArgs false
set_option linter.unusedVariables false
set_option maxHeartbeats 4000000
set_option maxRecDepth 20000
namespace Go.Proofs.Ytnnkcbkenofhmaa.Am
open Go Go.RowKit Go.Proofs.Try
/-- A row of runes of one's own that grows. -/
def OwI (B : Nat) (h : Heap) (v : Value) (l : List Int) : Prop := Own prog B h 1 v l.length (l.map (Value.int .i32))
theorem OwI.rd {B : Nat} {h : Heap} {v : Value} {l : List Int} (O : OwI B h v l) : RdI prog h .i32 v l := O.1
theorem OwI.keeps {B : Nat} {h h' : Heap} {v : Value} {l : List Int} (O : OwI B h v l) (K : Keeps h h') : OwI B h' v l := Own.keeps O K
theorem OwI.nil {B : Nat} {h : Heap} : OwI B h nilS [] := Own.nil0
theorem OwI.new {B : Nat} {h : Heap} (H : Wf h) (hB : B ≤ h.size) {l : List Int} {c : Nat} : OwI B (h.new 21 (l.map (Value.int .i32))) (.slice (some ⟨h.size, 0, none⟩) l.length c) l := Own.new H hB asz21 (by simp)
theorem OwI.app {h0 h : Heap} {v x : Value} {l l2 : List Int} (K : Keeps h0 h) (O : OwI h0.size h v l) (X : RdI prog h .i32 x l2) (hb : l.length + l2.length ≤ 1000000000) :
    ∃ v' h', aappend prog h 22 22 v x = some (v', h') ∧ OwI h0.size h' v' (l ++ l2) ∧ Keeps h0 h' ∧ Reads h h' ∧ h.size ≤ h'.size := by
  obtain ⟨v', h', e1, O1, R1, C1, _⟩ := Own.appendRd (Ch.wf K) (Ch.le K) O underlying22 underlying22 rfl elem21 fits21 (by decide) X (by omega)
  refine ⟨v', h', e1, ?_, K.step C1 fun b e => e.2, R1, Ch.le C1⟩
  unfold OwI
  rw [List.length_append, List.map_append]; exact O1
/-- A written row behind it. -/
theorem OwI.lit {h0 h : Heap} {v : Value} {l : List Int} (K : Keeps h0 h) (O : OwI h0.size h v l) (l2 : List Int) (hb : l.length + l2.length ≤ 1000000000) :
    ∃ v' h', aappend prog (h.new 21 (l2.map (Value.int .i32))) 22 22 v (.slice (some ⟨h.size, 0, none⟩) l2.length (l2.length + 1)) = some (v', h') ∧ OwI h0.size h' v' (l ++ l2) ∧ Keeps h0 h' ∧ Reads h h' ∧ h.size ≤ h'.size := by
  have N := Keeps.new (Ch.wf K) 21 (l2.map (Value.int .i32))
  obtain ⟨v', h', e1, O1, K1, R1, z1⟩ := (O.keeps N).app (K.trans N) (Rd.new (Ch.wf K) asz21 (by simp)) hb
  exact ⟨v', h', e1, O1, K1, (N.reads (Ch.wf K)).trans R1, Nat.le_trans (Ch.le N) z1⟩
def opn : Nat → List Int
  | 0 => []
  | n + 1 => opn n ++ [92, 40]
def cls : Nat → List Int
  | 0 => []
  | n + 1 => cls n ++ [92, 41]
def gr (n : Nat) : List Int := opn n ++ [97] ++ cls n
def nestP : Nat → Int → Pat
  | 0, _ => pR 97
  | n + 1, g => pG g (nestP n (g + 1))
theorem opn_len : ∀ n, (opn n).length = 2 * n
  | 0 => rfl
  | n + 1 => by simp only [opn, List.length_append, opn_len n, List.length_cons, List.length_nil]; omega
theorem cls_len : ∀ n, (cls n).length = 2 * n
  | 0 => rfl
  | n + 1 => by simp only [cls, List.length_append, cls_len n, List.length_cons, List.length_nil]; omega
theorem upto20 {Q : Nat → Prop} (h : ∀ n, n ∈ List.range 21 → Q n) {n : Nat} (hn : n ≤ 20) : Q n := h n (by simp; omega)
theorem i32_opn : ∀ n, ∀ x, x ∈ opn n → 0 ≤ x ∧ x ≤ 1000
  | 0, x, h => by simp [opn] at h
  | n + 1, x, h => by
    simp only [opn, List.mem_append, List.mem_cons, List.not_mem_nil, or_false] at h
    rcases h with h | rfl | rfl
    · exact i32_opn n x h
    · omega
    · omega
theorem i32_cls : ∀ n, ∀ x, x ∈ cls n → 0 ≤ x ∧ x ≤ 1000
  | 0, x, h => by simp [cls] at h
  | n + 1, x, h => by
    simp only [cls, List.mem_append, List.mem_cons, List.not_mem_nil, or_false] at h
    rcases h with h | rfl | rfl
    · exact i32_cls n x h
    · omega
    · omega
theorem i32_gr (n : Nat) : I32 (gr n) := fun x hx => by
  simp only [gr, List.mem_append, List.mem_cons, List.not_mem_nil, or_false] at hx
  rcases hx with (hx | rfl) | hx
  · have := i32_opn n x hx; omega
  · omega
  · have := i32_cls n x hx; omega
theorem gr_deep {n : Nat} (h1 : 16 < n) (h2 : n ≤ 20) : (parseR (gr n)).2 = 12 := by
  rcases (show n = 17 ∨ n = 18 ∨ n = 19 ∨ n = 20 by omega) with rfl | rfl | rfl | rfl <;> kernel_rfl
theorem gr_fine {n : Nat} (h : n ≤ 16) : parseR (gr n) = (nestP n 1, 0) := by
  rcases (show n = 0 ∨ n = 1 ∨ n = 2 ∨ n = 3 ∨ n = 4 ∨ n = 5 ∨ n = 6 ∨ n = 7 ∨ n = 8 ∨ n = 9 ∨ n = 10 ∨ n = 11 ∨ n = 12 ∨ n = 13 ∨ n = 14 ∨ n = 15 ∨ n = 16 by omega) with rfl | rfl | rfl | rfl | rfl | rfl | rfl | rfl | rfl | rfl | rfl | rfl | rfl | rfl | rfl | rfl | rfl <;> kernel_rfl
theorem gr_open {n : Nat} (h : n ≤ 16) : (parseR (gr n ++ [92, 41])).2 = 10 := by
  rcases (show n = 0 ∨ n = 1 ∨ n = 2 ∨ n = 3 ∨ n = 4 ∨ n = 5 ∨ n = 6 ∨ n = 7 ∨ n = 8 ∨ n = 9 ∨ n = 10 ∨ n = 11 ∨ n = 12 ∨ n = 13 ∨ n = 14 ∨ n = 15 ∨ n = 16 by omega) with rfl | rfl | rfl | rfl | rfl | rfl | rfl | rfl | rfl | rfl | rfl | rfl | rfl | rfl | rfl | rfl | rfl <;> kernel_rfl
end Go.Proofs.Ytnnkcbkenofhmaa.Am
end
section
/- PatGroups told of abstract memory. -/
set_option linter.unusedSimpArgs false
set_option linter.unusedVariables false
set_option maxHeartbeats 4000000
set_option maxRecDepth 20000
namespace Go.Proofs.Ytnnkcbkenofhmaa.Am
open Go Go.RowKit Go.Proofs.Try
/-- A pattern's answer is put into a new variable. -/
theorem var_new {h0 h : Heap} {p : Pat} {c : RC} {D : Nat → Prop} (K : Keeps h0 h) (P : ReR h D p c) :
    ∃ h', storeV prog (h.new 26 (reC rc0)) 26 (.pointer (some ⟨h.size, 0, none⟩)) (reV c) = some (undef, h') ∧ Var h' h.size (reC c) ∧ ReR h' (Bx h.size) p c ∧ Keeps h h' ∧ h'.size = h.size + 1 := by
  have N := Keeps.new (Ch.wf K) 26 (reC rc0)
  obtain ⟨h', e, V, C, z⟩ := (Var.new (e := 26) (Ch.wf K) (cs := reC rc0)).put (Ch.wf N) (d := c) P.one1.1 P.one1.2
  have K' : Keeps h h' := N.step C fun b e => by omega
  exact ⟨h', e, V, ReR.ch K' (fun _ e => e.elim) p c (ReR.up (fun b e => .inr (by have : b = h.size := e; omega)) p c P), K', z⟩
theorem nest_ok : ∀ (n : Nat) (g : Int), PatOk (nestP n g)
  | 0, g => patOk_leaf (by decide)
  | n + 1, g => ⟨(fun e => by simp at e), by simp, nest_ok n (g + 1), trivial⟩
theorem patGroups_law {h : Heap} {n : Int} : ACalls prog 3 #[.int .i64 n] h (fun y h' => y = .bool true ∧ Keeps h h') := by
  refine acalls_of_W' func3 rfl (by kernel_rfl) (by kernel_rfl) (by simp [ntmps3]) ?_
  intro H
  have KR := Keeps.refl H
  have M1 := kmin_spec n 20
  have M2 := kmax_spec 0 (kmin n 20)
  obtain ⟨N, hN⟩ : ∃ N : Nat, kmax 0 (kmin n 20) = (N : Int) := ⟨(kmax 0 (kmin n 20)).toNat, by omega⟩
  have hN20 : N ≤ 20 := by omega
  simp only [wk, wt, wl, ↓reduceIte, Nat.reduceEqDiff, Nat.reduceAdd, Nat.zero_add, not_false_eq_true, not_true_eq_false, mnV, mxV, hN]
  refine W_loop (fun tm hh => tm 0 = .int .i64 (N : Int) ∧ ∃ (i : Nat) (v : Value), tm 4 = .int .i64 (i : Int) ∧ tm 3 = v ∧ i ≤ N ∧ OwI h.size hh v (opn i) ∧ Keeps h hh) (fun tm _ => (N - intOf (tm 4)).toNat) ⟨(by first | rfl | (simp only [wk, wt, wl, ↓reduceIte, Nat.reduceEqDiff, Nat.reduceAdd, Nat.zero_add, not_false_eq_true, not_true_eq_false]; done) | (simp only [wk, wt, wl, ↓reduceIte, Nat.reduceEqDiff, Nat.reduceAdd, Nat.zero_add, not_false_eq_true, not_true_eq_false]; rfl) | (simp only [wk, wt, wl, ↓reduceIte, Nat.reduceEqDiff, Nat.reduceAdd, Nat.zero_add, not_false_eq_true, not_true_eq_false, hN]; done) | (simp only [wk, wt, wl, ↓reduceIte, Nat.reduceEqDiff, Nat.reduceAdd, Nat.zero_add, not_false_eq_true, not_true_eq_false, hN]; rfl)), 0, nilS, (by first | rfl | (simp only [wk, wt, wl, ↓reduceIte, Nat.reduceEqDiff, Nat.reduceAdd, Nat.zero_add, not_false_eq_true, not_true_eq_false]; done) | (simp only [wk, wt, wl, ↓reduceIte, Nat.reduceEqDiff, Nat.reduceAdd, Nat.zero_add, not_false_eq_true, not_true_eq_false]; rfl)), (by first | rfl | (simp only [wk, wt, wl, ↓reduceIte, Nat.reduceEqDiff, Nat.reduceAdd, Nat.zero_add, not_false_eq_true, not_true_eq_false]; done) | (simp only [wk, wt, wl, ↓reduceIte, Nat.reduceEqDiff, Nat.reduceAdd, Nat.zero_add, not_false_eq_true, not_true_eq_false]; rfl) | (simp only [wk, wt, wl, ↓reduceIte, Nat.reduceEqDiff, Nat.reduceAdd, Nat.zero_add, not_false_eq_true, not_true_eq_false, nilS]; done) | (simp only [wk, wt, wl, ↓reduceIte, Nat.reduceEqDiff, Nat.reduceAdd, Nat.zero_add, not_false_eq_true, not_true_eq_false, nilS]; rfl)), by omega, OwI.nil, KR⟩ ?_
  rintro tm hh ⟨t0, i, v, t4, t3, hi, O, K⟩
  have wi : i < N → IntKind.i64.wrap ((i : Int) + 1) = ((i + 1 : Nat) : Int) := fun _ => by rw [IntWalk.i64_in _ (by omega)]; omega
  simp only [wk, wt, wl, ↓reduceIte, Nat.reduceEqDiff, Nat.reduceAdd, Nat.zero_add, not_false_eq_true, not_true_eq_false, t0, t3, t4]
  refine condK_dec (fun hd => ?_) (fun hd => ?_)
  · have hi2 : i < N := by omega
    have hlo := opn_len i
    obtain ⟨v2, h2, e2, O2, K2, _, _⟩ := O.lit K [92, 40] (by simp; omega)
    have e2' : aappend prog (hh.new 21 [.int .i32 92, .int .i32 40]) 22 22 v (.slice (some ⟨hh.size, 0, none⟩) 2 3) = some (v2, h2) := e2
    simp only [wk, wt, wl, ↓reduceIte, Nat.reduceEqDiff, Nat.reduceAdd, Nat.zero_add, not_false_eq_true, not_true_eq_false, t0, t3, t4, e2', wi hi2, intOf_int]
    exact ⟨⟨i + 1, v2, rfl, rfl, by omega, O2, K2⟩, by omega⟩
  obtain rfl : i = N := by omega
  have hlo := opn_len i
  obtain ⟨v2, h2, e2, O2, K2, _, _⟩ := O.lit K [97] (by simp; omega)
  have e2' : aappend prog (hh.new 21 [.int .i32 97]) 22 22 v (.slice (some ⟨hh.size, 0, none⟩) 1 2) = some (v2, h2) := e2
  simp only [wk, wt, wl, ↓reduceIte, Nat.reduceEqDiff, Nat.reduceAdd, Nat.zero_add, not_false_eq_true, not_true_eq_false, t0, t3, t4, e2']
  refine W_loop (fun tm hh => tm 0 = .int .i64 (i : Int) ∧ ∃ (j : Nat) (v : Value), tm 5 = .int .i64 (j : Int) ∧ tm 3 = v ∧ j ≤ i ∧ OwI h.size hh v (opn i ++ [97] ++ cls j) ∧ Keeps h hh) (fun tm _ => (i - intOf (tm 5)).toNat) ⟨(by first | rfl | (simp only [wk, wt, wl, ↓reduceIte, Nat.reduceEqDiff, Nat.reduceAdd, Nat.zero_add, not_false_eq_true, not_true_eq_false]; done) | (simp only [wk, wt, wl, ↓reduceIte, Nat.reduceEqDiff, Nat.reduceAdd, Nat.zero_add, not_false_eq_true, not_true_eq_false]; rfl) | (simp only [wk, wt, wl, ↓reduceIte, Nat.reduceEqDiff, Nat.reduceAdd, Nat.zero_add, not_false_eq_true, not_true_eq_false, t0]; done) | (simp only [wk, wt, wl, ↓reduceIte, Nat.reduceEqDiff, Nat.reduceAdd, Nat.zero_add, not_false_eq_true, not_true_eq_false, t0]; rfl)), 0, v2, (by first | rfl | (simp only [wk, wt, wl, ↓reduceIte, Nat.reduceEqDiff, Nat.reduceAdd, Nat.zero_add, not_false_eq_true, not_true_eq_false]; done) | (simp only [wk, wt, wl, ↓reduceIte, Nat.reduceEqDiff, Nat.reduceAdd, Nat.zero_add, not_false_eq_true, not_true_eq_false]; rfl)), (by first | rfl | (simp only [wk, wt, wl, ↓reduceIte, Nat.reduceEqDiff, Nat.reduceAdd, Nat.zero_add, not_false_eq_true, not_true_eq_false]; done) | (simp only [wk, wt, wl, ↓reduceIte, Nat.reduceEqDiff, Nat.reduceAdd, Nat.zero_add, not_false_eq_true, not_true_eq_false]; rfl)), by omega, by simpa [cls] using O2, K2⟩ ?_
  clear t0 t3 t4 O O2 K K2 e2 e2' hd wi
  rintro tm hh ⟨t0, j, v, t5, t3, hj, O, K⟩
  have wi : j < i → IntKind.i64.wrap ((j : Int) + 1) = ((j + 1 : Nat) : Int) := fun _ => by rw [IntWalk.i64_in _ (by omega)]; omega
  have hcl := cls_len j
  simp only [wk, wt, wl, ↓reduceIte, Nat.reduceEqDiff, Nat.reduceAdd, Nat.zero_add, not_false_eq_true, not_true_eq_false, t0, t3, t5]
  refine condK_dec (fun hd => ?_) (fun hd => ?_)
  · have hi2 : j < i := by omega
    obtain ⟨v2, h2, e2, O2, K2, _, _⟩ := O.lit K [92, 41] (by simp; omega)
    have e2' : aappend prog (hh.new 21 [.int .i32 92, .int .i32 41]) 22 22 v (.slice (some ⟨hh.size, 0, none⟩) 2 3) = some (v2, h2) := e2
    simp only [wk, wt, wl, ↓reduceIte, Nat.reduceEqDiff, Nat.reduceAdd, Nat.zero_add, not_false_eq_true, not_true_eq_false, t0, t3, t5, e2', wi hi2, intOf_int]
    exact ⟨⟨j + 1, v2, rfl, rfl, by omega, by rw [List.append_assoc] at O2; exact O2, K2⟩, by omega⟩
  obtain rfl : j = i := by omega
  have hgl : (gr j).length ≤ 1000 := by simp only [gr, List.length_append, hlo, hcl, List.length_cons, List.length_nil]; omega
  have O' : OwI h.size hh v (gr j) := O
  simp only [wk, wt, wl, ↓reduceIte, Nat.reduceEqDiff, Nat.reduceAdd, Nat.zero_add, not_false_eq_true, not_true_eq_false, t0, t3, t5]
  refine (parse_ok O'.rd (by omega) (i32_gr j)).use ?_
  rintro _ h3 ⟨c3, rfl, P3, K3⟩
  obtain ⟨h4, e4, V4, P4, K4, z4⟩ := var_new (K.trans K3) P3
  have K04 := (K.trans K3).trans K4
  simp only [wk, wt, wl, ↓reduceIte, Nat.reduceEqDiff, Nat.reduceAdd, Nat.zero_add, not_false_eq_true, not_true_eq_false, t0, t3, t5, newRe, newSz, e4]
  refine condK_dec (fun c1 => ?_) (fun c1 => ?_)
  · have hd := gr_deep (n := j) (by omega) hN20
    simp only [wk, wt, wl, ↓reduceIte, Nat.reduceEqDiff, Nat.reduceAdd, Nat.zero_add, not_false_eq_true, not_true_eq_false, hd]
    refine (awake_ok).use ?_
    rintro _ h5 ⟨rfl, K5⟩
    simp only [wk, wt, wl, ↓reduceIte, Nat.reduceEqDiff, Nat.reduceAdd, Nat.zero_add, not_false_eq_true, not_true_eq_false]
    exact K04.trans K5
  · have hf := gr_fine (n := j) (by omega)
    have ho := gr_open (n := j) (by omega)
    rw [hf] at P4
    have O4 := O'.keeps (K3.trans K4)
    have NE := Keeps.new (Ch.wf K04) 21 []
    have bE : abuildSlice prog h4 22 0 #[] = some (.slice (some ⟨h4.size, 0, none⟩) 0 1, h4.new 21 []) := build0 underlying22 asz21
    have OE : OwI h4.size (h4.new 21 []) (.slice (some ⟨h4.size, 0, none⟩) 0 1) [] := OwI.new (Ch.wf K04) (Nat.le_refl _)
    obtain ⟨v6, h6, e6, O6, K6, R6, z6⟩ := OE.app NE (O4.keeps NE).rd (by simp; omega)
    obtain ⟨v7, h7, e7, O7, K7, R7, z7⟩ := O6.lit K6 [92, 41] (by simp; omega)
    have e7' : aappend prog (h6.new 21 [.int .i32 92, .int .i32 41]) 22 22 v6 (.slice (some ⟨h6.size, 0, none⟩) 2 3) = some (v7, h7) := e7
    simp only [wk, wt, wl, ↓reduceIte, Nat.reduceEqDiff, Nat.reduceAdd, Nat.zero_add, not_false_eq_true, not_true_eq_false, t0, t3, bE, e6, e7']
    refine (parse_ok O7.rd (by simp only [List.length_append, List.length_nil, List.length_cons]; omega) (fun x hx => by
      simp only [List.nil_append, List.mem_append, List.mem_cons, List.not_mem_nil, or_false] at hx
      rcases hx with hx | rfl | rfl
      · exact i32_gr j x hx
      · omega
      · omega)).use ?_
    rintro _ h8 ⟨c8, rfl, P8, K8⟩
    rw [List.nil_append] at P8
    obtain ⟨h9, e9, V9, P9, K9, z9⟩ := var_new (K7.trans K8) P8
    have K49 := (K7.trans K8).trans K9
    have V49 := Keeps.var (Ch.wf K04) K49 V4
    have P49 := ReR.ch K49 (fun _ e => e.elim) _ _ P4
    simp only [wk, wt, wl, ↓reduceIte, Nat.reduceEqDiff, Nat.reduceAdd, Nat.zero_add, not_false_eq_true, not_true_eq_false, t0, t3, List.nil_append, newRe, newSz, e9]
    generalize hb6 : h3.size = b6 at V49 P49
    refine W_loop (fun tm hh => tm 0 = .int .i64 (j : Int) ∧ tm 6 = pt b6 ∧ tm 7 = .int .i64 (parseR (gr j)).2 ∧ tm 9 = .int .i64 (parseR (gr j ++ [92, 41])).2 ∧ ∃ (i m : Nat) (c : RC), tm 10 = .int .i64 (i : Int) ∧ 1 ≤ i ∧ i + m = j + 1 ∧ Var hh b6 (reC c) ∧ ReR hh (Bx b6) (nestP m (i : Int)) c ∧ Keeps h hh) (fun tm _ => (j + 1 - intOf (tm 10)).toNat)
      ⟨(by first | rfl | (simp only [wk, wt, wl, ↓reduceIte, Nat.reduceEqDiff, Nat.reduceAdd, Nat.zero_add, not_false_eq_true, not_true_eq_false]; done) | (simp only [wk, wt, wl, ↓reduceIte, Nat.reduceEqDiff, Nat.reduceAdd, Nat.zero_add, not_false_eq_true, not_true_eq_false]; rfl) | (simp only [wk, wt, wl, ↓reduceIte, Nat.reduceEqDiff, Nat.reduceAdd, Nat.zero_add, not_false_eq_true, not_true_eq_false, t0]; done) | (simp only [wk, wt, wl, ↓reduceIte, Nat.reduceEqDiff, Nat.reduceAdd, Nat.zero_add, not_false_eq_true, not_true_eq_false, t0]; rfl)), (by first | rfl | (simp only [wk, wt, wl, ↓reduceIte, Nat.reduceEqDiff, Nat.reduceAdd, Nat.zero_add, not_false_eq_true, not_true_eq_false]; done) | (simp only [wk, wt, wl, ↓reduceIte, Nat.reduceEqDiff, Nat.reduceAdd, Nat.zero_add, not_false_eq_true, not_true_eq_false]; rfl) | (simp only [wk, wt, wl, ↓reduceIte, Nat.reduceEqDiff, Nat.reduceAdd, Nat.zero_add, not_false_eq_true, not_true_eq_false, pt]; done) | (simp only [wk, wt, wl, ↓reduceIte, Nat.reduceEqDiff, Nat.reduceAdd, Nat.zero_add, not_false_eq_true, not_true_eq_false, pt]; rfl)), (by first | rfl | (simp only [wk, wt, wl, ↓reduceIte, Nat.reduceEqDiff, Nat.reduceAdd, Nat.zero_add, not_false_eq_true, not_true_eq_false]; done) | (simp only [wk, wt, wl, ↓reduceIte, Nat.reduceEqDiff, Nat.reduceAdd, Nat.zero_add, not_false_eq_true, not_true_eq_false]; rfl)), (by first | rfl | (simp only [wk, wt, wl, ↓reduceIte, Nat.reduceEqDiff, Nat.reduceAdd, Nat.zero_add, not_false_eq_true, not_true_eq_false]; done) | (simp only [wk, wt, wl, ↓reduceIte, Nat.reduceEqDiff, Nat.reduceAdd, Nat.zero_add, not_false_eq_true, not_true_eq_false]; rfl)), 1, j, c3, (by first | rfl | (simp only [wk, wt, wl, ↓reduceIte, Nat.reduceEqDiff, Nat.reduceAdd, Nat.zero_add, not_false_eq_true, not_true_eq_false]; done) | (simp only [wk, wt, wl, ↓reduceIte, Nat.reduceEqDiff, Nat.reduceAdd, Nat.zero_add, not_false_eq_true, not_true_eq_false]; rfl)), by omega, by omega, V49, P49, K04.trans K49⟩ ?_
    clear t0 t3 t5
    rintro tm hh ⟨t0, t6, t7, t9, i, m, c, t10, hi1, him, V, P, KH⟩
    have Hh := Ch.wf KH
    have hb6l : h.size ≤ b6 := by rw [← hb6]; exact Ch.le (K.trans K3)
    simp only [wk, wt, wl, ↓reduceIte, Nat.reduceEqDiff, Nat.reduceAdd, Nat.zero_add, not_false_eq_true, not_true_eq_false, t0, t10]
    refine condK_dec (fun hd2 => ?_) (fun hd2 => ?_)
    · obtain ⟨m, rfl⟩ : ∃ q, m = q + 1 := ⟨m - 1, by omega⟩
      obtain ⟨a1, a2, a3, a4, a5, a6, a7, a8, l, S, A⟩ := P
      have LK := V.k0
      have L4 := V.k4
      have L6 := V.k6
      rw [a1] at LK
      rw [a4] at L4
      have LN : abuiltin prog .len #[24] #[c.pv] = some (.int .i64 1) := by
        have := RS.len S underlying24
        rw [A.len] at this; exact this
      obtain ⟨c', hc', P'⟩ := A.at (i := 0) rfl
      have IX : aindexAddr prog 24 c.pv (.int .i64 0) = some (.pointer (some (eltA c.pv 7 0))) := Rd.index S underlying24 asz26 (q := .i64) (i := 0) (by omega) (by rw [A.len]; simp)
      have LX : aload prog hh 26 (eltA c.pv 7 0) = some (reV c') := RS.agg S reC_len underlying26 rfl asz26 hc'
      obtain ⟨hx, ex, Vx, Cx, zx⟩ := V.put Hh (d := c') P'.one1.1 P'.one1.2
      have Px := ReR.ch Cx (fun b e => e) _ _ P'
      have d1 : decide (¬ (11 : Int) = 11) = false := rfl
      have d2 : decide (¬ (i : Int) = (i : Int)) = false := by simp
      have d3 : decide (¬ (1 : Int) = 1) = false := rfl
      have wi : IntKind.i64.wrap ((i : Int) + 1) = ((i + 1 : Nat) : Int) := by rw [IntWalk.i64_in _ (by omega)]; omega
      simp only [wk, wt, wl, ↓reduceIte, Nat.reduceEqDiff, Nat.reduceAdd, Nat.zero_add, not_false_eq_true, not_true_eq_false, t0, t6, t7, t9, t10, pt, LK, L4, L6, d1, d2, LN, d3, IX, LX, ex, wi, intOf_int]
      exact ⟨⟨i + 1, m, c', rfl, by omega, by omega, Vx, Px, KH.step Cx fun b e => by omega⟩, by omega⟩
    · obtain rfl : m = 0 := by omega
      have d1 : decide ((0 : Int) = 0) = true := rfl
      have d2 : decide ((10 : Int) = 10) = true := rfl
      simp only [wk, wt, wl, ↓reduceIte, Nat.reduceEqDiff, Nat.reduceAdd, Nat.zero_add, not_false_eq_true, not_true_eq_false, t0, t6, t7, t9, t10, pt, hf, ho, V.re, build_rer]
      refine (same_all _ (pR 97) c _ hh _ (Bx b6) (Nat.lt_succ_self _) (patOk_leaf (by decide)) P ReR.r).use ?_
      rintro _ h10 ⟨rfl, K10⟩
      simp only [wk, wt, wl, ↓reduceIte, Nat.reduceEqDiff, Nat.reduceAdd, Nat.zero_add, not_false_eq_true, not_true_eq_false]
      refine (awake_ok).use ?_
      rintro _ h11 ⟨rfl, K11⟩
      simp only [wk, wt, wl, ↓reduceIte, Nat.reduceEqDiff, Nat.reduceAdd, Nat.zero_add, not_false_eq_true, not_true_eq_false]
      exact (KH.trans K10).trans K11
end Go.Proofs.Ytnnkcbkenofhmaa.Am
end
section
/- PatTimes in plain terms: what a repetition with counts is read as; no program in sight. -/
set_option linter.unusedSimpArgs false
set_option linter.unusedVariables false
namespace Go.Proofs.Ytnnkcbkenofhmaa.Am
open Go Go.RowKit Go.Proofs.Try
section
variable {grp : List Int → Int → PRes} {n : Nat} {acc : List Pat} {l t u : List Int} {g g' : Int} {p q : Pat} {e : Int}
theorem pieM_done (h : endedM l = true) : pieM grp (n + 1) acc l g = .ok (pCat acc, l, g) := by simp only [pieM]; rw [if_pos h]
theorem pieM_step (h : endedM l = false) (ha : atomM grp acc.isEmpty l g = .ok (p, t, g')) (hr : repsM (t.length + 1) p t = .ok (q, u)) : pieM grp (n + 1) acc l g = pieM grp n (acc ++ [q]) u g' := by
  simp only [pieM]
  rw [h, ha]
  simp only [Bool.false_eq_true, if_false]
  rw [hr]
theorem pieM_errA (h : endedM l = false) (ha : atomM grp acc.isEmpty l g = .error e) : pieM grp (n + 1) acc l g = .error e := by
  simp only [pieM]
  rw [h, ha]
  simp only [Bool.false_eq_true, if_false]
theorem pieM_errR (h : endedM l = false) (ha : atomM grp acc.isEmpty l g = .ok (p, t, g')) (hr : repsM (t.length + 1) p t = .error e) : pieM grp (n + 1) acc l g = .error e := by
  simp only [pieM]
  rw [h, ha]
  simp only [Bool.false_eq_true, if_false]
  rw [hr]
theorem altM_one (hp : pieM grp (l.length + 1) [] l g = .ok (p, t, g')) (hb : barM t = false) : altM grp l g = .ok (p, t, g') := by
  unfold altM
  rw [hp]
  simp only [altsM]
  rw [hb]
  simp only [Bool.false_eq_true, if_false]
  rfl
theorem altM_err (hp : pieM grp (l.length + 1) [] l g = .error e) : altM grp l g = .error e := by
  unfold altM
  rw [hp]
theorem repsM_none (hk : p.kind ≠ 4) (h : repM p l = .ok none) : repsM (n + 1) p l = .ok (p, l) := by simp only [repsM]; rw [if_neg hk, h]
theorem repsM_some (hk : p.kind ≠ 4) (h : repM p l = .ok (some (q, t))) : repsM (n + 1) p l = repsM n q t := by simp only [repsM]; rw [if_neg hk, h]
theorem repsM_err (hk : p.kind ≠ 4) (h : repM p l = .error e) : repsM (n + 1) p l = .error e := by simp only [repsM]; rw [if_neg hk, h]
theorem repM_times {T : List Int} : repM p (92 :: 123 :: T) = (match timesM T with | .error e => .error e | .ok (lo, hi, t) => .ok (some (pStar lo hi p, t))) := rfl
theorem parseR_ok (h : altM (grpM 16) l 0 = .ok (p, [], g)) (hs : sizeM p ≤ 400) : parseR l = (p, 0) := by
  unfold parseR parseM
  rw [h]
  simp only [List.length_nil, Nat.lt_irrefl, if_false]
  rw [if_neg (by omega)]
theorem parseR_deep (h : altM (grpM 16) l 0 = .ok (p, [], g)) (hs : 400 < sizeM p) : parseR l = (pE, 12) := by
  unfold parseR parseM
  rw [h]
  simp only [List.length_nil, Nat.lt_irrefl, if_false]
  rw [if_pos hs]
theorem parseR_err (h : altM (grpM 16) l 0 = .error e) : parseR l = (pE, e) := by
  unfold parseR parseM
  rw [h]
end
def decF : Nat → Nat → List Int
  | 0, _ => []
  | f + 1, n => if n < 10 then [48 + (n : Int)] else decF f (n / 10) ++ [48 + ((n % 10 : Nat) : Int)]
def dec (n : Nat) : List Int := decF 3 n
theorem digM_step {n : Int} {b : Bool} {x : Int} {l : List Int} (h : 48 ≤ x ∧ x ≤ 57) : digM n b (x :: l) = digM (kmin (n * 10 + (x - 48)) 101) true l := by simp only [digM]; rw [if_pos h]
theorem digM_stop {n : Int} {b : Bool} {x : Int} {l : List Int} (h : ¬ (48 ≤ x ∧ x ≤ 57)) : digM n b (x :: l) = (n, x :: l, b) := by simp only [digM]; rw [if_neg h]
theorem dec_dig {n : Nat} (hn : n ≤ 120) {x : Int} {r : List Int} (hx : ¬ (48 ≤ x ∧ x ≤ 57)) : digM 0 false (dec n ++ x :: r) = (kmin (n : Int) 101, x :: r, true) := by
  unfold dec
  by_cases h1 : n < 10
  · simp only [decF, if_pos h1, List.cons_append, List.nil_append]
    rw [digM_step (by omega), digM_stop hx]
    congr 1
    congr 1
    omega
  · simp only [decF, if_neg h1]
    by_cases h2 : n / 10 < 10
    · simp only [if_pos h2, List.cons_append, List.nil_append]
      rw [digM_step (by omega), digM_step (by omega), digM_stop hx]
      have M := kmin_spec ((0 : Int) * 10 + (48 + ((n / 10 : Nat) : Int) - 48)) 101
      congr 1
      congr 1
      omega
    · have h3 : n / 10 / 10 < 10 := by omega
      simp only [if_neg h2, if_pos h3, List.cons_append, List.nil_append, List.append_assoc]
      rw [digM_step (by omega), digM_step (by omega), digM_step (by omega), digM_stop hx]
      have M := kmin_spec ((0 : Int) * 10 + (48 + ((n / 10 / 10 : Nat) : Int) - 48)) 101
      have M2 := kmin_spec (kmin ((0 : Int) * 10 + (48 + ((n / 10 / 10 : Nat) : Int) - 48)) 101 * 10 + (48 + ((n / 10 % 10 : Nat) : Int) - 48)) 101
      congr 1
      congr 1
      omega
theorem dec_len {n : Nat} : (dec n).length ≤ 3 := by
  unfold dec
  simp only [decF]
  split
  · simp
  · split
    · simp
    · split
      · simp
      · simp
theorem dec_rng {n : Nat} : ∀ x, x ∈ dec n → 0 ≤ x ∧ x ≤ 1000 := by
  unfold dec
  intro x hx
  simp only [decF] at hx
  split at hx
  · simp at hx; omega
  · split at hx
    · simp at hx; omega
    · split at hx
      · simp at hx; omega
      · simp at hx; omega
theorem timesM_two {m n : Nat} (hm : m ≤ 120) (hn : n ≤ 120) {r : List Int} : timesM (dec m ++ 44 :: (dec n ++ 92 :: r)) = if 100 < m ∨ 100 < n ∨ n < m then .error 11 else endM m n (92 :: r) := by
  have d1 := dec_dig hm (x := 44) (r := dec n ++ 92 :: r) (by omega)
  have d2 := dec_dig hn (x := 92) (r := r) (by omega)
  have hh : hiM (kmin (m : Int) 101) (44 :: (dec n ++ 92 :: r)) = (kmin (n : Int) 101, 92 :: r) := by
    simp only [hiM, List.head?_cons, List.tail_cons, if_true, d2]
  unfold timesM
  rw [d1]
  simp only [Bool.true_eq_false, if_false]
  rw [hh]
  have M1 := kmin_spec (m : Int) 101
  have M2 := kmin_spec (n : Int) 101
  have M3 := kmax_spec (kmin (m : Int) 101) (kmin (n : Int) 101)
  by_cases c : 100 < m ∨ 100 < n ∨ n < m
  · rw [if_pos c, if_pos (by simp only; omega)]
  · rw [if_neg c, if_neg (by simp only; omega)]
    rw [show kmin (m : Int) 101 = m by omega, show kmin (n : Int) 101 = n by omega]
theorem timesM_one {m : Nat} (hm : m ≤ 100) {r : List Int} : timesM (dec m ++ 92 :: r) = endM m m (92 :: r) := by
  have d1 := dec_dig (n := m) (by omega) (x := 92) (r := r) (by omega)
  have hh : hiM (kmin (m : Int) 101) (92 :: r) = (kmin (m : Int) 101, 92 :: r) := by
    simp [hiM]
  unfold timesM
  rw [d1]
  simp only [Bool.true_eq_false, if_false]
  rw [hh]
  have M1 := kmin_spec (m : Int) 101
  have M3 := kmax_spec (kmin (m : Int) 101) (kmin (m : Int) 101)
  rw [if_neg (by simp only; omega)]
  rw [show kmin (m : Int) 101 = m by omega]
def pm (m n : Nat) : List Int := [97, 92, 123] ++ dec m ++ [44] ++ dec n ++ [92, 125]
def pm2 (m n : Nat) : List Int := [92, 40] ++ pm m n ++ [92, 41, 92, 123] ++ dec m ++ [92, 125]
/-- The pattern 'a', repeated, ahead of what ends an alternative. -/
theorem pm_alt {grp : List Int → Int → PRes} {m n : Nat} (hm : m ≤ 120) (hn : n ≤ 120) (hc : ¬ (100 < m ∨ 100 < n ∨ n < m)) {r : List Int} (hr : endedM r = true) (hb : barM r = false) {g : Int} :
    altM grp (pm m n ++ r) g = .ok (pStar m n (pR 97), r, g) := by
  have e1 : pm m n ++ r = 97 :: 92 :: 123 :: (dec m ++ 44 :: (dec n ++ 92 :: 125 :: r)) := by simp [pm]
  have hT := timesM_two hm hn (r := 125 :: r)
  rw [if_neg hc] at hT
  have hT2 : timesM (dec m ++ 44 :: (dec n ++ 92 :: 125 :: r)) = .ok ((m : Int), (n : Int), r) := hT
  rw [e1]
  refine altM_one ?_ hb
  have ha : atomM grp true (97 :: 92 :: 123 :: (dec m ++ 44 :: (dec n ++ 92 :: 125 :: r))) g = .ok (pR 97, 92 :: 123 :: (dec m ++ 44 :: (dec n ++ 92 :: 125 :: r)), g) := rfl
  have hk : (pR 97).kind ≠ 4 := by decide
  have hk2 : (pStar m n (pR 97)).kind ≠ 4 := by show (10 : Int) ≠ 4; decide
  have hr1 : repM (pR 97) (92 :: 123 :: (dec m ++ 44 :: (dec n ++ 92 :: 125 :: r))) = .ok (some (pStar m n (pR 97), r)) := by rw [repM_times, hT2]
  have hr2 : repM (pStar m n (pR 97)) r = .ok none := by
    rcases r with _ | ⟨x, _ | ⟨y, r⟩⟩
    · rfl
    · cases hr
    · simp only [endedM, decide_eq_true_eq] at hr
      obtain ⟨rfl, hy⟩ := hr
      rcases hy with rfl | rfl <;> rfl
  have hre : repsM ((92 :: 123 :: (dec m ++ 44 :: (dec n ++ 92 :: 125 :: r))).length + 1) (pR 97) (92 :: 123 :: (dec m ++ 44 :: (dec n ++ 92 :: 125 :: r))) = .ok (pStar m n (pR 97), r) := by
    rw [repsM_some hk hr1]
    exact repsM_none hk2 hr2
  rw [show (97 :: 92 :: 123 :: (dec m ++ 44 :: (dec n ++ 92 :: 125 :: r))).length + 1 = ((123 :: (dec m ++ 44 :: (dec n ++ 92 :: 125 :: r))).length + 1 + 1) + 1 from rfl]
  rw [pieM_step rfl ha hre, pieM_done hr]
  rfl
theorem pm_ok {m n : Nat} (hm : m ≤ 120) (hn : n ≤ 120) (hc : ¬ (100 < m ∨ 100 < n ∨ n < m)) : parseR (pm m n) = (pStar m n (pR 97), 0) := by
  have h := pm_alt (grp := grpM 16) hm hn hc (r := []) rfl rfl (g := 0)
  rw [List.append_nil] at h
  refine parseR_ok h ?_
  have M1 := kmax_spec 1 (m : Int)
  have M2 := kmax_spec (kmax 1 (m : Int)) (n : Int)
  have hs : sizeM (pStar m n (pR 97)) = kmin (1 + 1 * kmax (kmax 1 (m : Int)) n) 401 := rfl
  have M3 := kmin_spec (1 + 1 * kmax (kmax 1 (m : Int)) n) 401
  omega
theorem pm_bad {m n : Nat} (hm : m ≤ 120) (hn : n ≤ 120) (hc : 100 < m ∨ 100 < n ∨ n < m) : parseR (pm m n) = (pE, 11) := by
  have e1 : pm m n = 97 :: 92 :: 123 :: (dec m ++ 44 :: (dec n ++ 92 :: [125])) := by simp [pm]
  have hT := timesM_two hm hn (r := [125])
  rw [if_pos hc] at hT
  rw [e1]
  refine parseR_err (altM_err ?_)
  have ha : atomM (grpM 16) true (97 :: 92 :: 123 :: (dec m ++ 44 :: (dec n ++ 92 :: [125]))) 0 = .ok (pR 97, 92 :: 123 :: (dec m ++ 44 :: (dec n ++ 92 :: [125])), 0) := rfl
  have hk : (pR 97).kind ≠ 4 := by decide
  have hr1 : repM (pR 97) (92 :: 123 :: (dec m ++ 44 :: (dec n ++ 92 :: [125]))) = .error 11 := by rw [repM_times, hT]
  exact pieM_errR rfl ha (repsM_err hk hr1)
theorem pm2_size {m n : Nat} (hm : m ≤ 100) (hn : n ≤ 100) (hc : m ≤ n) : (parseR (pm2 m n)).2 = if 1 + (2 + kmax 1 (n : Int)) * kmax 1 (m : Int) ≤ 400 then 0 else 12 := by
  have e1 : pm2 m n = 92 :: 40 :: (pm m n ++ 92 :: 41 :: 92 :: 123 :: (dec m ++ 92 :: [125])) := by simp [pm2]
  have hi := pm_alt (grp := grpM 15) (m := m) (n := n) (by omega) (by omega) (by omega) (r := 92 :: 41 :: 92 :: 123 :: (dec m ++ 92 :: [125])) rfl rfl (g := 1)
  have hg : grpM 16 (pm m n ++ 92 :: 41 :: 92 :: 123 :: (dec m ++ 92 :: [125])) 0 = .ok (pG 1 (pStar m n (pR 97)), 92 :: 123 :: (dec m ++ 92 :: [125]), 1) := by
    have e : grpM 16 (pm m n ++ 92 :: 41 :: 92 :: 123 :: (dec m ++ 92 :: [125])) 0 = (match altM (grpM 15) (pm m n ++ 92 :: 41 :: 92 :: 123 :: (dec m ++ 92 :: [125])) (0 + 1) with
      | .error e => .error e
      | .ok (p, t, g') => if t.length = 0 then .error 10 else .ok (pG (0 + 1) p, t.drop 2, g')) := rfl
    rw [e, show (0 : Int) + 1 = 1 from rfl, hi]
    rfl
  have ha : atomM (grpM 16) true (92 :: 40 :: (pm m n ++ 92 :: 41 :: 92 :: 123 :: (dec m ++ 92 :: [125]))) 0 = .ok (pG 1 (pStar m n (pR 97)), 92 :: 123 :: (dec m ++ 92 :: [125]), 1) := by
    have e : atomM (grpM 16) true (92 :: 40 :: (pm m n ++ 92 :: 41 :: 92 :: 123 :: (dec m ++ 92 :: [125]))) 0 = grpM 16 (pm m n ++ 92 :: 41 :: 92 :: 123 :: (dec m ++ 92 :: [125])) 0 := rfl
    rw [e, hg]
  have hT : timesM (dec m ++ 92 :: [125]) = .ok ((m : Int), (m : Int), []) := timesM_one hm
  have hk : (pG 1 (pStar m n (pR 97))).kind ≠ 4 := by show (11 : Int) ≠ 4; decide
  have hk2 : (pStar m m (pG 1 (pStar m n (pR 97)))).kind ≠ 4 := by show (10 : Int) ≠ 4; decide
  have hr1 : repM (pG 1 (pStar m n (pR 97))) (92 :: 123 :: (dec m ++ 92 :: [125])) = .ok (some (pStar m m (pG 1 (pStar m n (pR 97))), [])) := by rw [repM_times, hT]
  have hre : repsM ((92 :: 123 :: (dec m ++ 92 :: [125])).length + 1) (pG 1 (pStar m n (pR 97))) (92 :: 123 :: (dec m ++ 92 :: [125])) = .ok (pStar m m (pG 1 (pStar m n (pR 97))), []) := by
    rw [repsM_some hk hr1]
    exact repsM_none hk2 rfl
  have hA : altM (grpM 16) (pm2 m n) 0 = .ok (pStar m m (pG 1 (pStar m n (pR 97))), [], 1) := by
    rw [e1]
    refine altM_one ?_ rfl
    rw [show (92 :: 40 :: (pm m n ++ 92 :: 41 :: 92 :: 123 :: (dec m ++ 92 :: [125]))).length + 1 = ((pm m n ++ 92 :: 41 :: 92 :: 123 :: (dec m ++ 92 :: [125])).length + 1 + 1) + 1 from rfl]
    rw [pieM_step rfl ha hre, pieM_done rfl]
    rfl
  have hs : sizeM (pStar m m (pG 1 (pStar m n (pR 97)))) = kmin (1 + kmin (1 + kmin (1 + 1 * kmax (kmax 1 (m : Int)) n) 401) 401 * kmax (kmax 1 (m : Int)) m) 401 := rfl
  have M1 := kmax_spec 1 (m : Int)
  have M2 := kmax_spec (kmax 1 (m : Int)) (n : Int)
  have M2' := kmax_spec (kmax 1 (m : Int)) (m : Int)
  have M3 := kmin_spec (1 + 1 * kmax (kmax 1 (m : Int)) n) 401
  have M4 := kmin_spec (1 + kmin (1 + 1 * kmax (kmax 1 (m : Int)) n) 401) 401
  have M5 := kmax_spec 1 (n : Int)
  have hx : kmin (1 + kmin (1 + 1 * kmax (kmax 1 (m : Int)) n) 401) 401 = 2 + kmax 1 (n : Int) := by omega
  have hy : kmax (kmax 1 (m : Int)) m = kmax 1 (m : Int) := by omega
  rw [hx, hy] at hs
  have M6 := kmin_spec (1 + (2 + kmax 1 (n : Int)) * kmax 1 (m : Int)) 401
  by_cases c : 1 + (2 + kmax 1 (n : Int)) * kmax 1 (m : Int) ≤ 400
  · rw [if_pos c, parseR_ok hA (by omega)]
  · rw [if_neg c, parseR_deep hA (by omega)]
end Go.Proofs.Ytnnkcbkenofhmaa.Am
end
section
/- PatTimes told of abstract memory. -/
set_option linter.unusedSimpArgs false
set_option linter.unusedVariables false
set_option maxHeartbeats 4000000
set_option maxRecDepth 20000
namespace Go.Proofs.Ytnnkcbkenofhmaa.Am
open Go Go.RowKit Go.Proofs.Try
theorem cv64 {x : Int} (h1 : 0 ≤ x) (h2 : x ≤ 1000) : ∀ h, aconv prog h 3 21 (.int .i64 x) = some (.int .i32 x) := fun h => by
  have w : IntKind.i32.wrap x = x := IntWalk.i32_in _ (by omega)
  simp [aconv, underlying21, underlying3, w]
theorem decimal_f : ∀ (f : Nat) (h : Heap) (n : Nat), f ≤ 10 → n < 10 ^ (f + 1) → n ≤ 1000 → ACalls prog 11 #[.int .i64 (n : Int)] h (fun y h' => OwI h.size h' y (decF (f + 1) n) ∧ Keeps h h')
  | f, h, n, hf, hn, hb => by
    refine acalls_of_W' func11 rfl (by kernel_rfl) (by kernel_rfl) (by simp [ntmps11]) ?_
    intro H
    by_cases c : n < 10
    · have d : decide ((n : Int) < 10) = true := decide_eq_true (by omega)
      have w1 : IntKind.i64.wrap (48 + (n : Int)) = 48 + (n : Int) := IntWalk.i64_in _ (by omega)
      have cv := cv64 (x := 48 + (n : Int)) (by omega) (by omega)
      have O := OwI.new (B := h.size) H (Nat.le_refl _) (l := [48 + (n : Int)]) (c := 2)
      simp only [wk, wt, wl, ↓reduceIte, Nat.reduceEqDiff, Nat.reduceAdd, Nat.zero_add, not_false_eq_true, not_true_eq_false, d, w1, cv]
      simp only [decF, if_pos c]
      exact ⟨O, Keeps.new H _ _⟩
    · have d : decide ((n : Int) < 10) = false := decide_eq_false (by omega)
      obtain ⟨f, rfl⟩ : ∃ q, f = q + 1 := ⟨f - 1, by
        rcases f with _ | f
        · simp at hn; omega
        · omega⟩
      have hq : ((n : Int)).tdiv 10 = ((n / 10 : Nat) : Int) := by rw [Int.tdiv_eq_ediv_of_nonneg (by omega)]; rfl
      have hr : ((n : Int)).tmod 10 = ((n % 10 : Nat) : Int) := by rw [Int.tmod_eq_emod_of_nonneg (by omega)]; rfl
      have wq : IntKind.i64.wrap (((n : Int)).tdiv 10) = ((n / 10 : Nat) : Int) := by rw [hq]; exact IntWalk.i64_in _ (by omega)
      have aq := abin_quo (P := prog) (t := 3) (k := .i64) (x := (n : Int)) (y := 10) (by decide)
      have ar := abin_rem (P := prog) (t := 3) (k := .i64) (x := (n : Int)) (y := 10) (by decide)
      rw [wq] at aq
      rw [hr] at ar
      have hd : n % 10 < 10 := Nat.mod_lt _ (by decide)
      have w1 : IntKind.i64.wrap (48 + ((n % 10 : Nat) : Int)) = 48 + ((n % 10 : Nat) : Int) := IntWalk.i64_in _ (by omega)
      have cv := cv64 (x := 48 + ((n % 10 : Nat) : Int)) (by omega) (by omega)
      have hp : n / 10 < 10 ^ (f + 1) := by rw [Nat.div_lt_iff_lt_mul (by decide)]; rw [Nat.pow_succ] at hn; exact hn
      simp only [wk, wt, wl, ↓reduceIte, Nat.reduceEqDiff, Nat.reduceAdd, Nat.zero_add, not_false_eq_true, not_true_eq_false, d, aq]
      refine (decimal_f f h (n / 10) (by omega) hp (by omega)).use ?_
      rintro v h2 ⟨O2, K2⟩
      have hl : (decF (f + 1) (n / 10)).length ≤ 1000 := by
        have : ∀ (f n : Nat), (decF f n).length ≤ f := fun f => by
          induction f with
          | zero => intro n; simp [decF]
          | succ f ih => intro n; simp only [decF]; split <;> simp; exact ih _
        have := this (f + 1) (n / 10); omega
      obtain ⟨v3, h3, e3, O3, K3, _, _⟩ := O2.lit K2 [48 + ((n % 10 : Nat) : Int)] (by simp; omega)
      have e3' : aappend prog (h2.new 21 [.int .i32 (48 + ((n % 10 : Nat) : Int))]) 22 22 v (.slice (some ⟨h2.size, 0, none⟩) 1 2) = some (v3, h3) := e3
      simp only [wk, wt, wl, ↓reduceIte, Nat.reduceEqDiff, Nat.reduceAdd, Nat.zero_add, not_false_eq_true, not_true_eq_false, ar, w1, cv, e3']
      refine ⟨?_, K3⟩
      rw [show decF (f + 1 + 1) n = decF (f + 1) (n / 10) ++ [48 + ((n % 10 : Nat) : Int)] by simp only [decF, if_neg c]]
      exact O3
theorem decimal_ok {h : Heap} {n : Nat} (hn : n ≤ 120) : ACalls prog 11 #[.int .i64 (n : Int)] h (fun y h' => OwI h.size h' y (dec n) ∧ Keeps h h') := decimal_f 2 h n (by omega) (by omega) (by omega)
theorem i32_mem {l : List Int} (h : ∀ x, x ∈ l → 0 ≤ x ∧ x ≤ 1000) : I32 l := fun x hx => by have := h x hx; omega
theorem pm_rng {m n : Nat} : ∀ x, x ∈ pm m n → 0 ≤ x ∧ x ≤ 1000 := fun x hx => by
  simp only [pm, List.mem_append, List.mem_cons, List.not_mem_nil, or_false] at hx
  rcases hx with (((hx | hx) | hx) | hx) | hx
  · omega
  · exact dec_rng x hx
  · omega
  · exact dec_rng x hx
  · omega
theorem pm2_rng {m n : Nat} : ∀ x, x ∈ pm2 m n → 0 ≤ x ∧ x ≤ 1000 := fun x hx => by
  simp only [pm2, List.mem_append, List.mem_cons, List.not_mem_nil, or_false] at hx
  rcases hx with (((hx | hx) | hx) | hx) | hx
  · omega
  · exact pm_rng x hx
  · omega
  · exact dec_rng x hx
  · omega
theorem pm_len {m n : Nat} : (pm m n).length ≤ 12 := by
  have h1 := dec_len (n := m)
  have h2 := dec_len (n := n)
  simp only [pm, List.length_append, List.length_cons, List.length_nil]; omega
theorem pm2_len {m n : Nat} : (pm2 m n).length ≤ 24 := by
  have h1 := dec_len (n := m)
  have h2 := pm_len (m := m) (n := n)
  simp only [pm2, List.length_append, List.length_cons, List.length_nil]; omega
theorem eql_bool {a b : Bool} : abin prog .eql 4 (.bool a) (.bool b) = some (.bool (a == b)) := by
  cases a <;> cases b <;> simp [abin, aeq, underlying4]
theorem patTimes_law {h : Heap} {m0 n0 : Int} : ACalls prog 4 #[.int .i64 m0, .int .i64 n0] h (fun y h' => y = .bool true ∧ Keeps h h') := by
  refine acalls_of_W' func4 rfl (by kernel_rfl) (by kernel_rfl) (by simp [ntmps4]) ?_
  intro H
  have KR := Keeps.refl H
  have M1 := kmin_spec m0 120
  have M2 := kmax_spec 0 (kmin m0 120)
  have M3 := kmin_spec n0 120
  have M4 := kmax_spec 0 (kmin n0 120)
  obtain ⟨m, hm⟩ : ∃ N : Nat, kmax 0 (kmin m0 120) = (N : Int) := ⟨(kmax 0 (kmin m0 120)).toNat, by omega⟩
  obtain ⟨n, hn⟩ : ∃ N : Nat, kmax 0 (kmin n0 120) = (N : Int) := ⟨(kmax 0 (kmin n0 120)).toNat, by omega⟩
  have hm1 : m ≤ 120 := by omega
  have hn1 : n ≤ 120 := by omega
  have hdm := dec_len (n := m)
  have hdn := dec_len (n := n)
  have N1 := Keeps.new H 21 [.int .i32 97, .int .i32 92, .int .i32 123]
  have O1 : OwI h.size (h.new 21 [.int .i32 97, .int .i32 92, .int .i32 123]) (.slice (some ⟨h.size, 0, none⟩) 3 4) [97, 92, 123] := OwI.new H (Nat.le_refl _)
  simp only [wk, wt, wl, ↓reduceIte, Nat.reduceEqDiff, Nat.reduceAdd, Nat.zero_add, not_false_eq_true, not_true_eq_false, mnV, mxV, hm, hn]
  refine (decimal_ok hm1).use ?_
  rintro dv h2 ⟨O2, K2⟩
  obtain ⟨v3, h3, e3, O3, K3, _, _⟩ := (O1.keeps K2).app (N1.trans K2) O2.rd (by simp; omega)
  obtain ⟨v4, h4, e4, O4, K4, _, _⟩ := O3.lit K3 [44] (by simp; omega)
  have e4' : aappend prog (h3.new 21 [.int .i32 44]) 22 22 v3 (.slice (some ⟨h3.size, 0, none⟩) 1 2) = some (v4, h4) := e4
  simp only [wk, wt, wl, ↓reduceIte, Nat.reduceEqDiff, Nat.reduceAdd, Nat.zero_add, not_false_eq_true, not_true_eq_false, hm, hn, e3, e4']
  refine (decimal_ok hn1).use ?_
  rintro dv2 h5 ⟨O5, K5⟩
  obtain ⟨v6, h6, e6, O6, K6, _, _⟩ := (O4.keeps K5).app (K4.trans K5) O5.rd (by simp; omega)
  obtain ⟨v7, h7, e7, O7, K7, _, _⟩ := O6.lit K6 [92, 125] (by simp; omega)
  have e7' : aappend prog (h6.new 21 [.int .i32 92, .int .i32 125]) 22 22 v6 (.slice (some ⟨h6.size, 0, none⟩) 2 3) = some (v7, h7) := e7
  have O7' : OwI h.size h7 v7 (pm m n) := O7
  have hpl := pm_len (m := m) (n := n)
  simp only [wk, wt, wl, ↓reduceIte, Nat.reduceEqDiff, Nat.reduceAdd, Nat.zero_add, not_false_eq_true, not_true_eq_false, hm, hn, e6, e7']
  refine (parse_ok O7'.rd (by omega) (i32_mem pm_rng)).use ?_
  rintro _ h8 ⟨c8, rfl, P8, K8⟩
  obtain ⟨h9, e9, V9, P9, K9, z9⟩ := var_new (K7.trans K8) P8
  have K09 := (K7.trans K8).trans K9
  simp only [wk, wt, wl, ↓reduceIte, Nat.reduceEqDiff, Nat.reduceAdd, Nat.zero_add, not_false_eq_true, not_true_eq_false, hm, hn, newRe, newSz, e9]
  by_cases hc : 100 < m ∨ 100 < n ∨ n < m
  · have hb := pm_bad hm1 hn1 hc
    have d0 : decide ((11 : Int) = 11) = true := rfl
    by_cases c1 : 100 < m
    · have d1 : decide (100 < (m : Int)) = true := decide_eq_true (by omega)
      simp only [wk, wt, wl, ↓reduceIte, Nat.reduceEqDiff, Nat.reduceAdd, Nat.zero_add, not_false_eq_true, not_true_eq_false, hm, hn, d1, hb, d0]
      refine (awake_ok).use ?_
      rintro _ h10 ⟨rfl, K10⟩
      simp only [wk, wt, wl, ↓reduceIte, Nat.reduceEqDiff, Nat.reduceAdd, Nat.zero_add, not_false_eq_true, not_true_eq_false]
      exact K09.trans K10
    · have d1 : decide (100 < (m : Int)) = false := decide_eq_false (by omega)
      by_cases c2 : 100 < n
      · have d2 : decide (100 < (n : Int)) = true := decide_eq_true (by omega)
        simp only [wk, wt, wl, ↓reduceIte, Nat.reduceEqDiff, Nat.reduceAdd, Nat.zero_add, not_false_eq_true, not_true_eq_false, hm, hn, d1, d2, hb, d0]
        refine (awake_ok).use ?_
        rintro _ h10 ⟨rfl, K10⟩
        simp only [wk, wt, wl, ↓reduceIte, Nat.reduceEqDiff, Nat.reduceAdd, Nat.zero_add, not_false_eq_true, not_true_eq_false]
        exact K09.trans K10
      · have d2 : decide (100 < (n : Int)) = false := decide_eq_false (by omega)
        have d3 : decide ((n : Int) < (m : Int)) = true := decide_eq_true (by omega)
        simp only [wk, wt, wl, ↓reduceIte, Nat.reduceEqDiff, Nat.reduceAdd, Nat.zero_add, not_false_eq_true, not_true_eq_false, hm, hn, d1, d2, d3, hb, d0]
        refine (awake_ok).use ?_
        rintro _ h10 ⟨rfl, K10⟩
        simp only [wk, wt, wl, ↓reduceIte, Nat.reduceEqDiff, Nat.reduceAdd, Nat.zero_add, not_false_eq_true, not_true_eq_false]
        exact K09.trans K10
  · have d1 : decide (100 < (m : Int)) = false := decide_eq_false (by omega)
    have d2 : decide (100 < (n : Int)) = false := decide_eq_false (by omega)
    have d3 : decide ((n : Int) < (m : Int)) = false := decide_eq_false (by omega)
    have hok := pm_ok hm1 hn1 hc
    have hs2 := pm2_size (m := m) (n := n) (by omega) (by omega) (by omega)
    rw [hok] at P9
    have N10 := Keeps.new (Ch.wf K09) 21 [.int .i32 92, .int .i32 40]
    have O10 : OwI h9.size (h9.new 21 [.int .i32 92, .int .i32 40]) (.slice (some ⟨h9.size, 0, none⟩) 2 3) [92, 40] := OwI.new (Ch.wf K09) (Nat.le_refl _)
    have O79 := O7'.keeps ((K8.trans K9).trans N10)
    obtain ⟨v11, h11, e11, O11, K11, _, _⟩ := O10.app N10 O79.rd (by simp; omega)
    obtain ⟨v12, h12, e12, O12, K12, _, _⟩ := O11.lit K11 [92, 41, 92, 123] (by simp; omega)
    have e12' : aappend prog (h11.new 21 [.int .i32 92, .int .i32 41, .int .i32 92, .int .i32 123]) 22 22 v11 (.slice (some ⟨h11.size, 0, none⟩) 4 5) = some (v12, h12) := e12
    simp only [wk, wt, wl, ↓reduceIte, Nat.reduceEqDiff, Nat.reduceAdd, Nat.zero_add, not_false_eq_true, not_true_eq_false, hm, hn, d1, d2, d3, e11, e12']
    refine (decimal_ok hm1).use ?_
    rintro dv3 h13 ⟨O13, K13⟩
    obtain ⟨v14, h14, e14, O14, K14, _, _⟩ := (O12.keeps K13).app (K12.trans K13) O13.rd (by simp; omega)
    obtain ⟨v15, h15, e15, O15, K15, _, _⟩ := O14.lit K14 [92, 125] (by simp; omega)
    have e15' : aappend prog (h14.new 21 [.int .i32 92, .int .i32 125]) 22 22 v14 (.slice (some ⟨h14.size, 0, none⟩) 2 3) = some (v15, h15) := e15
    have O15' : OwI h9.size h15 v15 (pm2 m n) := O15
    have hpl2 := pm2_len (m := m) (n := n)
    simp only [wk, wt, wl, ↓reduceIte, Nat.reduceEqDiff, Nat.reduceAdd, Nat.zero_add, not_false_eq_true, not_true_eq_false, hm, hn, e14, e15']
    refine (parse_ok O15'.rd (by omega) (i32_mem pm2_rng)).use ?_
    rintro _ h16 ⟨c16, rfl, P16, K16⟩
    obtain ⟨h17, e17, V17, P17, K17, z17⟩ := var_new (K15.trans K16) P16
    have K917 := (K15.trans K16).trans K17
    have V97 := Keeps.var (Ch.wf K09) K917 V9
    obtain ⟨a1, a2, a3, a4, a5, _⟩ := P9
    have LK := V97.k0
    have L4 := V97.k4
    have L5 := V97.k5
    rw [a1] at LK
    rw [a4] at L4
    rw [a5] at L5
    have X1 := kmax_spec 1 (n : Int)
    have X2 := kmax_spec 1 (m : Int)
    have hmul : 0 ≤ (2 + kmax 1 (n : Int)) * kmax 1 (m : Int) ∧ (2 + kmax 1 (n : Int)) * kmax 1 (m : Int) ≤ 200 * 200 := ⟨Int.mul_nonneg (by omega) (by omega), Int.mul_le_mul (by omega) (by omega) (by omega) (by omega)⟩
    have w1 : IntKind.i64.wrap (2 + kmax 1 (n : Int)) = 2 + kmax 1 (n : Int) := IntWalk.i64_in _ (by omega)
    have w2 : IntKind.i64.wrap ((2 + kmax 1 (n : Int)) * kmax 1 (m : Int)) = (2 + kmax 1 (n : Int)) * kmax 1 (m : Int) := IntWalk.i64_in _ (by omega)
    have w3 : IntKind.i64.wrap (1 + (2 + kmax 1 (n : Int)) * kmax 1 (m : Int)) = 1 + (2 + kmax 1 (n : Int)) * kmax 1 (m : Int) := IntWalk.i64_in _ (by omega)
    have f1 : decide ((0 : Int) = 0) = true := rfl
    have f2 : decide ((10 : Int) = 10) = true := rfl
    have f3 : decide ((m : Int) = (m : Int)) = true := by simp
    have f4 : decide ((n : Int) = (n : Int)) = true := by simp
    have f5 : (decide ((parseR (pm2 m n)).2 = 0) == decide (1 + (2 + kmax 1 (n : Int)) * kmax 1 (m : Int) ≤ 400)) = true := by
      rw [hs2]
      by_cases c : 1 + (2 + kmax 1 (n : Int)) * kmax 1 (m : Int) ≤ 400
      · rw [if_pos c]; simp [c]
      · rw [if_neg c]; simp [c]
    simp only [wk, wt, wl, ↓reduceIte, Nat.reduceEqDiff, Nat.reduceAdd, Nat.zero_add, not_false_eq_true, not_true_eq_false, hm, hn, newRe, newSz, e17, mxV, w1, w2, w3, hok, f1, f2, f3, f4, LK, L4, L5, eql_bool, f5]
    refine (awake_ok).use ?_
    rintro _ h18 ⟨rfl, K18⟩
    simp only [wk, wt, wl, ↓reduceIte, Nat.reduceEqDiff, Nat.reduceAdd, Nat.zero_add, not_false_eq_true, not_true_eq_false]
    exact (K09.trans K917).trans K18
end Go.Proofs.Ytnnkcbkenofhmaa.Am
end
