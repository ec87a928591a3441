/- Patterns, the program: contract of Parse, which recovers what its readers give up with; by walks. -/
import Derived.Test.YtnnkcbkenofhmaaKk
set_option linter.unusedSimpArgs false
set_option linter.unusedVariables false
set_option maxHeartbeats 4000000
set_option maxRecDepth 20000
namespace Go.Proofs.Ytnnkcbkenofhmaa.Am
open Go Go.RowKit Go.Proofs.Try
theorem neq_nil : abin prog .neq 20 .nilIface .nilIface = some (.bool false) := by simp [abin, aeq, underlying20]
theorem neq_flt {e : Int} : abin prog .neq 20 (.iface 42 (.agg #[.int .i64 e])) .nilIface = some (.bool true) := by simp [abin, aeq, underlying20]
theorem assert_flt {tm : Tm} {x : Operand} {xt : TypeId} {e : Int} (h : ev tm x = flt e) : assertV prog tm (.typeAssert x xt 42 true) = some (.tuple #[.agg #[.int .i64 e], .bool true]) := by
  simp [assertV, h, flt, underlying42]
/-- The closure, where nothing is under way. -/
theorem dc_none {h : Heap} {a b : Value} {Q : Heap → Prop} (q : Q h) : DCall prog 19 #[a, b] none h Q := by
  refine dcall_of_WD func19 rfl rfl (by kernel_rfl) (by decide) (by simp [ntmps19]) ?_
  simp only [wk, wt, wl, ↓reduceIte, Nat.reduceEqDiff, Nat.reduceAdd, Nat.zero_add, not_false_eq_true, not_true_eq_false, wd, neq_nil, Option.getD_none]
  exact ⟨.inl trivial, q⟩
/-- The closure, where a reader has given up. -/
theorem dc_some {h : Heap} {b0 b1 : Nat} {c : RC} {x e : Int} {Q : Heap → Prop} (H : Wf h) (V0 : Var h b0 (reC c)) (V1 : Var h b1 [.int .i64 x]) (hne : b0 ≠ b1)
    (K : ∀ h', Var h' b0 (reC rc0) → Var h' b1 [.int .i64 e] → Ch (B2 b0 b1) h h' → Q h') : DCall prog 19 #[pt b0, pt b1] (some (flt e)) h Q := by
  refine dcall_of_WD func19 rfl rfl (by kernel_rfl) (by decide) (by simp [ntmps19]) ?_
  have N1 := Keeps.new H 42 [.int .i64 0]
  have V2 := Var.new (e := 42) H (cs := [.int .i64 0])
  obtain ⟨h2, e2, V2', C2, z2⟩ := V2.store (P := prog) (t := 42) (v := .agg #[.int .i64 e]) (i := 0) (Ch.wf N1) asz42 (by simp [Value.cells]) (by simp [Value.cells, one])
  have V2'' : Var h2 h.size [.int .i64 e] := V2'
  have K2 : Keeps h h2 := N1.step C2 fun b e => by omega
  have hl0 := V0.lt H
  have hl1 := V1.lt H
  have V02 := Keeps.var H K2 V0
  have V12 := Keeps.var H K2 V1
  obtain ⟨h3, e3, V03, C3, z3⟩ := V02.put (Ch.wf K2) (d := rc0) rfl rfl
  have V13 := Ch.var (Ch.wf K2) C3 V12 (by omega)
  have V23 := Ch.var (Ch.wf K2) C3 V2'' (by omega)
  obtain ⟨h4, e4, V14, C4, z4⟩ := V13.store1 (P := prog) (t := 27) (v := .int .i64 e) (i := 0) (Ch.wf C3) asz27 (by simp) rfl
  have V04 := Ch.var (Ch.wf C3) C4 V03 hne
  have L2 := V2''.load1 (P := prog) (t := 27) underlying27 rfl (i := 0)
  have L3 := V23.load1 (P := prog) (t := 27) underlying27 rfl (i := 0)
  simp only [List.getElem?_cons_zero] at L2 L3
  have asf : ∀ {tm : Tm} {x : Nat} {xt : TypeId}, tm x = flt e → assertV prog tm (.typeAssert (.tmp x) xt 42 true) = some (.tuple #[.agg #[.int .i64 e], .bool true]) := fun h => assert_flt h
  have CC : Ch (B2 b0 b1) h h4 := ((K2.mono (D' := B2 b0 b1) fun _ e => e.elim).then C3 fun b e => .inr (.inl e)).then C4 fun b e => .inr (.inr e)
  have kk := K h4 V04 V14 CC
  simp only [wk, wt, wl, ↓reduceIte, Nat.reduceEqDiff, Nat.reduceAdd, Nat.zero_add, not_false_eq_true, not_true_eq_false, wd, neq_flt, Option.getD_some, assertV, underlying42, flt, pt, e2]
  refine WD_draw (.two 0 1 (.two 1 3 (.two 2 3 (.one 3 (.one 4 .nil)) (.one 2 (.one 4 .nil))) (.one 1 (.one 2 (.one 4 .nil)))) (.two 0 2 (.two 2 3 (.one 3 (.one 4 .nil)) (.one 2 (.one 4 .nil))) (.one 0 (.one 3 (.one 4 .nil))))) mixed (by kernel_rfl) (by kernel_rfl) ?_
  simp only [wk, wt, wl, ↓reduceIte, Nat.reduceEqDiff, Nat.reduceAdd, Nat.zero_add, not_false_eq_true, not_true_eq_false, we, build_re0, pt, L2, L3, e3, e4, and_self]
  exact ⟨.inl trivial, kk⟩
theorem resOf_cc {P : Program} {h : Heap} {tm : Tm} {t a u b : Nat} : resOf P h tm #[.cell a t, .cell b u] = tupV (cellV P h t (tm a)) (cellV P h u (tm b)) := by
  show (match resList P h tm [.cell a t, .cell b u] with | some l => some (Value.tuple l.toArray) | none => none) = _
  simp only [resList, resV_cell]
  cases cellV P h t (tm a) <;> cases cellV P h u (tm b) <;> rfl
/-- A pattern read, or none and what is wrong. -/
def parseR (l : List Int) : Pat × Int := match parseM l with
  | .ok p => (p, 0)
  | .error e => (pE, e)
theorem parseM_ok {l : List Int} {p : Pat} (hl : l.length ≤ 10000000) (h : parseM l = .ok p) : PatOk p ∧ sizeM p ≤ 400 := by
  unfold parseM at h
  split at h
  · cases h
  · rename_i q t g ha
    split at h
    · cases h
    · split at h
      · cases h
      · cases h
        exact ⟨altM_ok (grpM_ok 16) (grpM_GL 16) hl ha, by omega⟩
theorem parse_ok {h : Heap} {pv : Value} {l : List Int} (S : RdI prog h .i32 pv l) (hl : l.length ≤ 10000000) (h32 : I32 l) :
    ACalls prog 8 #[pv] h (fun y h' => ∃ c, y = .tuple #[reV c, .int .i64 (parseR l).2] ∧ ReR h' (Lt h.size) (parseR l).1 c ∧ Keeps h h') := by
  refine ACallsX.wf fun H => ?_
  refine acalls_defer (capv := #[pt h.size, pt (h.size + 1)]) func8 rfl (by kernel_rfl) (by kernel_rfl) (by kernel_rfl) (by decide) (by kernel_rfl) (by simp [ntmps8]) (by kernel_rfl) ?_
  have N1 := Keeps.new H 26 (reC rc0)
  have V1 := Var.new (e := 26) H (cs := reC rc0)
  have N2 := Keeps.new (Ch.wf N1) 27 [.int .i64 0]
  have V2 := Var.new (e := 27) (Ch.wf N1) (cs := [.int .i64 0])
  have N3 := Keeps.new (Ch.wf N2) 46 [pv, .int .i64 0, .int .i64 0]
  have V3 := Var.new (e := 46) (Ch.wf N2) (cs := [pv, .int .i64 0, .int .i64 0])
  have V13 := Keeps.var (Ch.wf N2) N3 (Keeps.var (Ch.wf N1) N2 V1)
  have V23 := Keeps.var (Ch.wf N2) N3 V2
  have K3 := (N1.trans N2).trans N3
  have S3 := S.keeps K3
  have ov : one pv = true := Rd.one S
  have bR : abuild prog 46 #[(0, pv)] = some (.agg #[pv, .int .i64 0, .int .i64 0]) := by simp [abuild, wt, aplaces, Instr.fill, one_cells ov, ov]; rfl
  have bxR : ∀ hh : Heap, boxV prog hh 46 (.agg #[pv, .int .i64 0, .int .i64 0]) = some (.pointer (some ⟨hh.size, 0, none⟩), hh.new 46 [pv, .int .i64 0, .int .i64 0]) := fun hh => by simp [boxV, asz46, Value.cells, ov, one_int]
  obtain ⟨pb, hpb, hpn, hps⟩ : ∃ pb, (∀ b, blkOf pv = some b → b = pb) ∧ pb ≠ h.size + 2 ∧ pb ≠ h.size ∧ pb < h.size + 2 := by
    cases hb : blkOf pv with
    | none => exact ⟨h.size + 1, (fun b e => by cases e), by omega, by omega, by omega⟩
    | some b => have := (Rd.blk_lt S hb).1; exact ⟨b, (fun x e => by cases e; rfl), by omega, by omega, by omega⟩
  have hz2 : ((h.new 26 (reC rc0)).new 27 [.int .i64 0]).size = h.size + 2 := rfl
  rw [hz2] at V3
  have R3 : RD (((h.new 26 (reC rc0)).new 27 [.int .i64 0]).new 46 [pv, .int .i64 0, .int .i64 0]) (h.size + 2) pb l 0 (16 - ((16 : Nat) : Int)) := ⟨pv, V3, S3, hpb, hpn, by show pb < h.size + 3; omega⟩
  have A := alts_all 16 (by omega) _ _ _ l 0 R3 ⟨by omega, by omega, h32⟩
  have hM : parseR l = (match altM (grpM 16) l 0 with
    | .error e => (pE, e)
    | .ok (p, t, _) => if 0 < t.length then (pE, 10) else if 400 < sizeM p then (pE, 12) else (p, 0)) := by
    unfold parseR parseM
    cases altM (grpM 16) l 0 with
    | error e => rfl
    | ok x =>
      obtain ⟨p, t, g⟩ := x
      simp only
      by_cases c1 : 0 < t.length
      · rw [if_pos c1, if_pos c1]
      · rw [if_neg c1, if_neg c1]
        by_cases c2 : 400 < sizeM p
        · rw [if_pos c2, if_pos c2]
        · rw [if_neg c2, if_neg c2]
  simp only [wk, wt, wl, ↓reduceIte, Nat.reduceEqDiff, Nat.reduceAdd, Nat.zero_add, not_false_eq_true, not_true_eq_false, newRe, newSz, pt, bR, aeff_box, bxR]
  refine A.ok ?_ ?_
  · intro p t g' c h4 hp P4 R4 C4
    rw [hp] at hM
    simp only at hM
    have V14 := Ch.var (Ch.wf N3) C4 V13 (by omega)
    have V24 := Ch.var (Ch.wf N3) C4 V23 (by show ¬ ((h.new 26 (reC rc0)).size = h.size + 2); show ¬ (h.size + 1 = h.size + 2); omega)
    have V24' : Var h4 (h.size + 1) [.int .i64 0] := V24
    have hz4 : h.size + 3 ≤ h4.size := Ch.le C4
    obtain ⟨h5, e5, V15, C5, z5⟩ := V14.put (Ch.wf C4) (d := c) P4.one1.1 P4.one1.2
    have V25 := Ch.var (Ch.wf C4) C5 V24' (by omega)
    have R5 := R4.ch (Ch.wf C4) C5 (by omega) (by omega)
    have P5 : ReR h5 (Lt (h.size + 3)) p c := ReR.ch C5 (fun b e => by show b < _; omega) p c P4
    have K5 : Keeps h h5 := (K3.step C4 fun b e => by have : b = h.size + 2 := e; omega).step C5 fun b e => by omega
    obtain ⟨rv5, RV5, S5, _⟩ := id R5
    have L5 := RV5.ld.1
    have L1 := fun {hq : Heap} {x : Int} (V : Var hq (h.size + 1) [.int .i64 x]) => V.load1 (P := prog) (t := 27) underlying27 rfl (i := 0)
    simp only [List.getElem?_cons_zero] at L1
    have LN5 := S5.ln (n := (t.length : Int)) rfl
    by_cases c1 : 0 < t.length
    · have d1 : decide (0 < (t.length : Int)) = true := decide_eq_true (by omega)
      rw [if_pos c1] at hM
      obtain ⟨h6, e6, V16, C6, z6⟩ := V15.put (Ch.wf C5) (d := rc0) rfl rfl
      obtain ⟨h7, e7, V27, C7, z7⟩ := (Ch.var (Ch.wf C5) C6 V25 (by omega)).store1 (P := prog) (t := 27) (v := .int .i64 10) (i := 0) (Ch.wf C6) asz27 (by simp) rfl
      have V17 := Ch.var (Ch.wf C6) C7 V16 (by omega)
      simp only [List.set_cons_zero] at V27
      have K7 : Keeps h h7 := (K5.step C6 fun b e => by omega).step C7 fun b e => by omega
      simp only [wk, wt, wl, ↓reduceIte, Nat.reduceEqDiff, Nat.reduceAdd, Nat.zero_add, not_false_eq_true, not_true_eq_false, pt, newSz, e5, L5, LN5, d1, build_re0, e6, e7, deferK_ret]
      refine dc_none ?_
      show optV (resOf prog _ _ #[.cell 2 _, .cell 3 _]) _
      simp only [wk, wt, wl, ↓reduceIte, Nat.reduceEqDiff, Nat.reduceAdd, Nat.zero_add, not_false_eq_true, not_true_eq_false, resOf_cc, V17.re, L1 V27]
      exact ⟨rc0, by rw [hM], by rw [hM]; exact ReR.e, K7⟩
    · have d1 : decide (0 < (t.length : Int)) = false := decide_eq_false (by omega)
      rw [if_neg c1] at hM
      simp only [wk, wt, wl, ↓reduceIte, Nat.reduceEqDiff, Nat.reduceAdd, Nat.zero_add, not_false_eq_true, not_true_eq_false, pt, newSz, e5, L5, LN5, d1, V15.re]
      refine (size_all _ p c h5 _ (Nat.lt_succ_self _) (altM_ok (grpM_ok 16) (grpM_GL 16) hl hp) P5).use ?_
      rintro _ h6 ⟨rfl, K6⟩
      have V16 := Keeps.var (Ch.wf C5) K6 V15
      have V26 := Keeps.var (Ch.wf C5) K6 V25
      have P6 := ReR.ch K6 (fun _ e => e.elim) p c P5
      have K06 := K5.trans K6
      have hz6 := Ch.le K6
      by_cases c2 : 400 < sizeM p
      · have d2 := decide_eq_true c2
        rw [if_pos c2] at hM
        obtain ⟨h7, e7, V17, C7, z7⟩ := V16.put (Ch.wf K6) (d := rc0) rfl rfl
        obtain ⟨h8, e8, V28, C8, z8⟩ := (Ch.var (Ch.wf K6) C7 V26 (by omega)).store1 (P := prog) (t := 27) (v := .int .i64 12) (i := 0) (Ch.wf C7) asz27 (by simp) rfl
        have V18 := Ch.var (Ch.wf C7) C8 V17 (by omega)
        simp only [List.set_cons_zero] at V28
        have K8 : Keeps h h8 := (K06.step C7 fun b e => by omega).step C8 fun b e => by omega
        simp only [wk, wt, wl, ↓reduceIte, Nat.reduceEqDiff, Nat.reduceAdd, Nat.zero_add, not_false_eq_true, not_true_eq_false, pt, newSz, d2, build_re0, e7, e8, deferK_ret]
        refine dc_none ?_
        show optV (resOf prog _ _ #[.cell 2 _, .cell 3 _]) _
        simp only [wk, wt, wl, ↓reduceIte, Nat.reduceEqDiff, Nat.reduceAdd, Nat.zero_add, not_false_eq_true, not_true_eq_false, resOf_cc, V18.re, L1 V28]
        exact ⟨rc0, by rw [hM], by rw [hM]; exact ReR.e, K8⟩
      · have d2 := decide_eq_false c2
        rw [if_neg c2] at hM
        obtain ⟨h7, e7, V17, C7, z7⟩ := V16.put (Ch.wf K6) (d := c) P4.one1.1 P4.one1.2
        obtain ⟨h8, e8, V28, C8, z8⟩ := (Ch.var (Ch.wf K6) C7 V26 (by omega)).store1 (P := prog) (t := 27) (v := .int .i64 0) (i := 0) (Ch.wf C7) asz27 (by simp) rfl
        have V18 := Ch.var (Ch.wf C7) C8 V17 (by omega)
        simp only [List.set_cons_zero] at V28
        have K8 : Keeps h h8 := (K06.step C7 fun b e => by omega).step C8 fun b e => by omega
        have P8 := ReR.ch C8 (fun b e => by show b < _; omega) p c (ReR.ch C7 (fun b e => by show b < _; omega) p c P6)
        simp only [wk, wt, wl, ↓reduceIte, Nat.reduceEqDiff, Nat.reduceAdd, Nat.zero_add, not_false_eq_true, not_true_eq_false, pt, newSz, d2, V16.re, e7, e8, deferK_ret]
        refine dc_none ?_
        show optV (resOf prog _ _ #[.cell 2 _, .cell 3 _]) _
        simp only [wk, wt, wl, ↓reduceIte, Nat.reduceEqDiff, Nat.reduceAdd, Nat.zero_add, not_false_eq_true, not_true_eq_false, resOf_cc, V18.re, L1 V28]
        exact ⟨c, by rw [hM], by rw [hM]; exact ReR.weak (fun b e => by show b < _; have : b < h.size := e; omega) p c P8, K8⟩
  · intro e h4 hp C4
    rw [hp] at hM
    simp only at hM
    have V14 := Ch.var (Ch.wf N3) C4 V13 (by omega)
    have V24 := Ch.var (Ch.wf N3) C4 V23 (by show ¬ (h.size + 1 = h.size + 2); omega)
    have V24' : Var h4 (h.size + 1) [.int .i64 0] := V24
    have L1 := fun {hq : Heap} {x : Int} (V : Var hq (h.size + 1) [.int .i64 x]) => V.load1 (P := prog) (t := 27) underlying27 rfl (i := 0)
    simp only [List.getElem?_cons_zero] at L1
    simp only [wk, wt, wl, ↓reduceIte, Nat.reduceEqDiff, Nat.reduceAdd, Nat.zero_add, not_false_eq_true, not_true_eq_false, deferK_raised]
    refine dc_some (Ch.wf C4) V14 V24' (by omega) fun h5 W1 W2 C5 => ?_
    show optV (resOf prog _ _ #[.cell 2 _, .cell 3 _]) _
    simp only [wk, wt, wl, ↓reduceIte, Nat.reduceEqDiff, Nat.reduceAdd, Nat.zero_add, not_false_eq_true, not_true_eq_false, resOf_cc, pt, W1.re, L1 W2]
    exact ⟨rc0, by rw [hM], by rw [hM]; exact ReR.e, (K3.step C4 fun b e => by have : b = h.size + 2 := e; omega).step C5 fun b e => by rcases e with e | e <;> omega⟩
end Go.Proofs.Ytnnkcbkenofhmaa.Am
