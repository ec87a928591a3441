/- Patterns: equal ones are the same by the document; by a walk. -/
import Derived.Test.YtnnkcbkenofhmaaKl
set_option linter.unusedSimpArgs false
set_option linter.unusedVariables false
set_option maxHeartbeats 4000000
set_option maxRecDepth 20000
namespace Go.Proofs.Ytnnkcbkenofhmaa.Am
open Go Go.RowKit Go.Proofs.Try
theorem stood_sp : prog.stoodInHeld 50 = false := by kernel_rfl
theorem guard_sp : prog.eqGuardType prog.depth 50 = false := by kernel_rfl
theorem neq_sp {x y : Int} : abin prog .neq 50 (.agg #[.int .i64 x, .int .i64 y]) (.agg #[.int .i64 x, .int .i64 y]) = some (.bool false) := by
  simp [abin, aeq, underlying50, stood_sp, guard_sp, aeqF, apart, aeq1, wt, isAggD]
theorem neq_bool {b : Bool} : abin prog .neq 4 (.bool b) (.bool b) = some (.bool false) := by simp [abin, aeq, underlying4]
theorem same_all : ∀ (m : Nat) (p : Pat) (c d : RC) (h : Heap) (D E : Nat → Prop), SizeOf.sizeOf p < m → PatOk p → ReR h D p c → ReR h E p d → ACalls prog 10 #[reV c, reV d] h (fun y h' => y = .bool true ∧ Keeps h h')
  | 0, p, c, d, h, D, E, hm, _, _, _ => by omega
  | m + 1, p, c, d, h, D, E, hm, hok, P, P' => by
    refine acalls_of_W' func10 rfl (by kernel_rfl) (by kernel_rfl) (by simp [ntmps10]) ?_
    intro H
    obtain ⟨k, r, set, nt, lo, hi, ps⟩ := p
    have P0 := P
    have P0' := P'
    simp only [ReR] at P P'
    obtain ⟨p1, p2, p3, p4, p5, p6, p7, p8, l, PS, PR⟩ := P
    obtain ⟨q1, q2, q3, q4, q5, q6, q7, q8, l', PS', PR'⟩ := P'
    have N1 := Keeps.new H 26 (reC c)
    have V1 := Var.new (e := 26) H (cs := reC c)
    have N2 := Keeps.new (Ch.wf N1) 26 (reC d)
    have V2 := Var.new (e := 26) (Ch.wf N1) (cs := reC d)
    have V12 := Keeps.var (Ch.wf N1) N2 V1
    have hz1 : (h.new 26 (reC c)).size = h.size + 1 := rfl
    rw [hz1] at V2
    have hll := PR.len
    have hll' := PR'.len
    have K0 := N1.trans N2
    have AK : ∀ {hh : Heap}, Var hh h.size (reC c) → aload prog hh 3 ⟨h.size, 0, none⟩ = some (.int .i64 k) := fun V => by rw [← p1]; exact V.load1 (P := prog) (t := 3) underlying3 rfl (i := 0)
    have AR : ∀ {hh : Heap}, Var hh h.size (reC c) → aload prog hh 21 ⟨h.size, 1, none⟩ = some (.int .i32 r) := fun V => by rw [← p2]; exact V.load1 (P := prog) (t := 21) underlying21 rfl (i := 1)
    have AS : ∀ {hh : Heap}, Var hh h.size (reC c) → aload prog hh 23 ⟨h.size, 2, none⟩ = some c.sv := fun V => V.load1 (P := prog) (t := 23) underlying23 rfl (i := 2)
    have AN : ∀ {hh : Heap}, Var hh h.size (reC c) → aload prog hh 4 ⟨h.size, 3, none⟩ = some (.bool nt) := fun V => by rw [← p3]; exact V.load1 (P := prog) (t := 4) underlying4 rfl (i := 3)
    have AL : ∀ {hh : Heap}, Var hh h.size (reC c) → aload prog hh 3 ⟨h.size, 4, none⟩ = some (.int .i64 lo) := fun V => by rw [← p4]; exact V.load1 (P := prog) (t := 3) underlying3 rfl (i := 4)
    have AH : ∀ {hh : Heap}, Var hh h.size (reC c) → aload prog hh 3 ⟨h.size, 5, none⟩ = some (.int .i64 hi) := fun V => by rw [← p5]; exact V.load1 (P := prog) (t := 3) underlying3 rfl (i := 5)
    have AP : ∀ {hh : Heap}, Var hh h.size (reC c) → aload prog hh 24 ⟨h.size, 6, none⟩ = some c.pv := fun V => V.load1 (P := prog) (t := 24) underlying24 rfl (i := 6)
    have BK : ∀ {hh : Heap}, Var hh (h.size + 1) (reC d) → aload prog hh 3 ⟨(h.size + 1), 0, none⟩ = some (.int .i64 k) := fun V => by rw [← q1]; exact V.load1 (P := prog) (t := 3) underlying3 rfl (i := 0)
    have BR : ∀ {hh : Heap}, Var hh (h.size + 1) (reC d) → aload prog hh 21 ⟨(h.size + 1), 1, none⟩ = some (.int .i32 r) := fun V => by rw [← q2]; exact V.load1 (P := prog) (t := 21) underlying21 rfl (i := 1)
    have BS : ∀ {hh : Heap}, Var hh (h.size + 1) (reC d) → aload prog hh 23 ⟨(h.size + 1), 2, none⟩ = some d.sv := fun V => V.load1 (P := prog) (t := 23) underlying23 rfl (i := 2)
    have BN : ∀ {hh : Heap}, Var hh (h.size + 1) (reC d) → aload prog hh 4 ⟨(h.size + 1), 3, none⟩ = some (.bool nt) := fun V => by rw [← q3]; exact V.load1 (P := prog) (t := 4) underlying4 rfl (i := 3)
    have BL : ∀ {hh : Heap}, Var hh (h.size + 1) (reC d) → aload prog hh 3 ⟨(h.size + 1), 4, none⟩ = some (.int .i64 lo) := fun V => by rw [← q4]; exact V.load1 (P := prog) (t := 3) underlying3 rfl (i := 4)
    have BH : ∀ {hh : Heap}, Var hh (h.size + 1) (reC d) → aload prog hh 3 ⟨(h.size + 1), 5, none⟩ = some (.int .i64 hi) := fun V => by rw [← q5]; exact V.load1 (P := prog) (t := 3) underlying3 rfl (i := 5)
    have BP : ∀ {hh : Heap}, Var hh (h.size + 1) (reC d) → aload prog hh 24 ⟨(h.size + 1), 6, none⟩ = some d.pv := fun V => V.load1 (P := prog) (t := 24) underlying24 rfl (i := 6)
    simp only [PatOk] at hok
    generalize hh2 : (h.new 26 (reC c)).new 26 (reC d) = h2 at K0 V12 V2
    have LS := fun {hh : Heap} (K : Keeps h hh) => RS.len (RS.keeps p6 K) underlying23
    have LS' := fun {hh : Heap} (K : Keeps h hh) => RS.len (RS.keeps q6 K) underlying23
    have LP := fun {hh : Heap} (K : Keeps h hh) => RS.len (RS.keeps PS K) underlying24
    have LP' := fun {hh : Heap} (K : Keeps h hh) => RS.len (RS.keeps PS' K) underlying24
    rw [hll] at LP
    rw [hll'] at LP'
    have dk : ∀ x : Int, decide (¬ x = x) = false := fun x => by simp
    simp only [wk, wt, wl, ↓reduceIte, Nat.reduceEqDiff, Nat.reduceAdd, Nat.zero_add, not_false_eq_true, not_true_eq_false, pt, aeff_box, boxRe P0.one1.1 P0.one1.2, newSz, hh2, boxRe (h := h.new 26 (reC c)) P0'.one1.1 P0'.one1.2, AK V12, BK V2, AR V12, BR V2, AN V12, BN V2, AL V12, BL V2, AH V12, BH V2, AS V12, BS V2, AP V12, BP V2, LS K0, LS' K0, LP K0, LP' K0, dk, neq_bool]
    refine W_loop (fun tm hh => h2 = hh ∧ tm 2 = pt h.size ∧ tm 3 = pt (h.size + 1) ∧ ∃ i : Nat, tm 5 = .int .i64 (i : Int) ∧ i ≤ set.length) (fun tm _ => (set.length - intOf (tm 5)).toNat) ⟨rfl, (by first | rfl | (simp only [wk, wt, wl, ↓reduceIte, Nat.reduceEqDiff, Nat.reduceAdd, Nat.zero_add, not_false_eq_true, not_true_eq_false]; done) | (simp only [wk, wt, wl, ↓reduceIte, Nat.reduceEqDiff, Nat.reduceAdd, Nat.zero_add, not_false_eq_true, not_true_eq_false]; rfl) | (simp only [wk, wt, wl, ↓reduceIte, Nat.reduceEqDiff, Nat.reduceAdd, Nat.zero_add, not_false_eq_true, not_true_eq_false, pt]; done) | (simp only [wk, wt, wl, ↓reduceIte, Nat.reduceEqDiff, Nat.reduceAdd, Nat.zero_add, not_false_eq_true, not_true_eq_false, pt]; rfl)), (by first | rfl | (simp only [wk, wt, wl, ↓reduceIte, Nat.reduceEqDiff, Nat.reduceAdd, Nat.zero_add, not_false_eq_true, not_true_eq_false]; done) | (simp only [wk, wt, wl, ↓reduceIte, Nat.reduceEqDiff, Nat.reduceAdd, Nat.zero_add, not_false_eq_true, not_true_eq_false]; rfl) | (simp only [wk, wt, wl, ↓reduceIte, Nat.reduceEqDiff, Nat.reduceAdd, Nat.zero_add, not_false_eq_true, not_true_eq_false, pt]; done) | (simp only [wk, wt, wl, ↓reduceIte, Nat.reduceEqDiff, Nat.reduceAdd, Nat.zero_add, not_false_eq_true, not_true_eq_false, pt]; rfl)), 0, (by first | rfl | (simp only [wk, wt, wl, ↓reduceIte, Nat.reduceEqDiff, Nat.reduceAdd, Nat.zero_add, not_false_eq_true, not_true_eq_false]; done) | (simp only [wk, wt, wl, ↓reduceIte, Nat.reduceEqDiff, Nat.reduceAdd, Nat.zero_add, not_false_eq_true, not_true_eq_false]; rfl)), by omega⟩ ?_
    rintro tm _ ⟨rfl, t2, t3, i, t5, hi1⟩
    simp only [wk, wt, wl, ↓reduceIte, Nat.reduceEqDiff, Nat.reduceAdd, Nat.zero_add, not_false_eq_true, not_true_eq_false, t2, t3, t5, pt, AS V12, LS K0]
    refine condK_dec (fun hd => ?_) (fun hd => ?_)
    · have hi2 : i < set.length := by omega
      obtain ⟨x, hx⟩ : ∃ x, set[i]? = some x := ⟨_, List.getElem?_eq_getElem hi2⟩
      have IX := Rd.index (RS.keeps p6 K0) underlying23 asz50 (q := .i64) (i := (i : Int)) (by omega) (by omega)
      have IY := Rd.index (RS.keeps q6 K0) underlying23 asz50 (q := .i64) (i := (i : Int)) (by omega) (by omega)
      rw [Int.toNat_natCast] at IX IY
      have LX : aload prog h2 50 (eltA c.sv 2 i) = some (.agg #[.int .i64 x.1, .int .i64 x.2]) := RS.agg (RS.keeps p6 K0) spC_len underlying50 rfl asz50 hx
      have LY : aload prog h2 50 (eltA d.sv 2 i) = some (.agg #[.int .i64 x.1, .int .i64 x.2]) := RS.agg (RS.keeps q6 K0) spC_len underlying50 rfl asz50 hx
      have wi : IntKind.i64.wrap ((i : Int) + 1) = ((i + 1 : Nat) : Int) := by rw [IntWalk.i64_in _ (by have := hok.2.1.2; omega)]; omega
      refine adraw_order [(0, false), (1, false), (2, false), (3, false), (4, false), (5, false), (6, false), (7, false), (8, false), (9, false), (10, false)] mixed (by kernel_rfl) (by kernel_rfl) (by kernel_rfl) (by with_reducible repeat (first | exact PF_retK | refine PF_thenK ?_ | refine PF_blockK ?_)) ?_
      simp only [wk, wt, wl, ↓reduceIte, Nat.reduceEqDiff, Nat.reduceAdd, Nat.zero_add, not_false_eq_true, not_true_eq_false, t2, t3, t5, pt, AS V12, BS V2, IX, IY, LX, LY, neq_sp, wi, intOf_int]
      exact ⟨⟨i + 1, rfl, by omega⟩, by omega⟩
    · simp only [wk, wt, wl, ↓reduceIte, Nat.reduceEqDiff, Nat.reduceAdd, Nat.zero_add, not_false_eq_true, not_true_eq_false]
      refine W_loop (fun tm hh => Keeps h2 hh ∧ tm 2 = pt h.size ∧ tm 3 = pt (h.size + 1) ∧ ∃ i : Nat, tm 6 = .int .i64 (i : Int) ∧ i ≤ ps.length) (fun tm _ => (ps.length - intOf (tm 6)).toNat) ⟨Keeps.refl (Ch.wf K0), (by first | rfl | (simp only [wk, wt, wl, ↓reduceIte, Nat.reduceEqDiff, Nat.reduceAdd, Nat.zero_add, not_false_eq_true, not_true_eq_false]; done) | (simp only [wk, wt, wl, ↓reduceIte, Nat.reduceEqDiff, Nat.reduceAdd, Nat.zero_add, not_false_eq_true, not_true_eq_false]; rfl) | (simp only [wk, wt, wl, ↓reduceIte, Nat.reduceEqDiff, Nat.reduceAdd, Nat.zero_add, not_false_eq_true, not_true_eq_false, t2]; done) | (simp only [wk, wt, wl, ↓reduceIte, Nat.reduceEqDiff, Nat.reduceAdd, Nat.zero_add, not_false_eq_true, not_true_eq_false, t2]; rfl)), (by first | rfl | (simp only [wk, wt, wl, ↓reduceIte, Nat.reduceEqDiff, Nat.reduceAdd, Nat.zero_add, not_false_eq_true, not_true_eq_false]; done) | (simp only [wk, wt, wl, ↓reduceIte, Nat.reduceEqDiff, Nat.reduceAdd, Nat.zero_add, not_false_eq_true, not_true_eq_false]; rfl) | (simp only [wk, wt, wl, ↓reduceIte, Nat.reduceEqDiff, Nat.reduceAdd, Nat.zero_add, not_false_eq_true, not_true_eq_false, t3]; done) | (simp only [wk, wt, wl, ↓reduceIte, Nat.reduceEqDiff, Nat.reduceAdd, Nat.zero_add, not_false_eq_true, not_true_eq_false, t3]; rfl)), 0, (by first | rfl | (simp only [wk, wt, wl, ↓reduceIte, Nat.reduceEqDiff, Nat.reduceAdd, Nat.zero_add, not_false_eq_true, not_true_eq_false]; done) | (simp only [wk, wt, wl, ↓reduceIte, Nat.reduceEqDiff, Nat.reduceAdd, Nat.zero_add, not_false_eq_true, not_true_eq_false]; rfl)), by omega⟩ ?_
      clear t2 t3 t5 hd
      rintro tm hh ⟨K, t2, t3, j, t6, hj1⟩
      have K1 := K0.trans K
      have W1 := Keeps.var (Ch.wf K0) K V12
      have W2 := Keeps.var (Ch.wf K0) K V2
      simp only [wk, wt, wl, ↓reduceIte, Nat.reduceEqDiff, Nat.reduceAdd, Nat.zero_add, not_false_eq_true, not_true_eq_false, t2, t3, t6, pt, AP W1, LP K1]
      refine condK_dec (fun hd => ?_) (fun hd => ?_)
      · have hj2 : j < ps.length := by omega
        obtain ⟨p', hp'⟩ : ∃ p', ps[j]? = some p' := ⟨_, List.getElem?_eq_getElem hj2⟩
        obtain ⟨c', hc', Q⟩ := (RePs.ch K1 (fun _ e => e.elim) ps l PR).at hp'
        obtain ⟨d', hd', Q'⟩ := (RePs.ch K1 (fun _ e => e.elim) ps l' PR').at hp'
        have IX := Rd.index (RS.keeps PS K1) underlying24 asz26 (q := .i64) (i := (j : Int)) (by omega) (by omega)
        have IY := Rd.index (RS.keeps PS' K1) underlying24 asz26 (q := .i64) (i := (j : Int)) (by omega) (by omega)
        rw [Int.toNat_natCast] at IX IY
        have LX : aload prog hh 26 (eltA c.pv 7 j) = some (reV c') := RS.agg (RS.keeps PS K1) reC_len underlying26 rfl asz26 hc'
        have LY : aload prog hh 26 (eltA d.pv 7 j) = some (reV d') := RS.agg (RS.keeps PS' K1) reC_len underlying26 rfl asz26 hd'
        have wi : IntKind.i64.wrap ((j : Int) + 1) = ((j + 1 : Nat) : Int) := by rw [IntWalk.i64_in _ (by have := hok.2.1.1; omega)]; omega
        refine adraw_order [(0, false), (1, false), (2, false), (3, false), (4, false), (5, false), (6, false), (7, false), (8, false), (9, false), (10, true), (11, false)] mixed (by kernel_rfl) (by kernel_rfl) (by kernel_rfl) (by with_reducible repeat (first | exact PF_retK | refine PF_thenK ?_ | refine PF_blockK ?_)) ?_
        simp only [wk, wt, wl, ↓reduceIte, Nat.reduceEqDiff, Nat.reduceAdd, Nat.zero_add, not_false_eq_true, not_true_eq_false, t2, t3, t6, pt, AP W1, BP W2, IX, IY, LX, LY]
        refine (same_all m p' c' d' hh D E (by have := pat_lt (k := k) (r := r) (s := set) (nt := nt) (lo := lo) (hi := hi) hp'; omega) (hok.2.2.at hp') Q Q').use ?_
        rintro _ h4 ⟨rfl, K4⟩
        simp only [wk, wt, wl, ↓reduceIte, Nat.reduceEqDiff, Nat.reduceAdd, Nat.zero_add, not_false_eq_true, not_true_eq_false, dK_t]
        refine ⟨Keeps.reads (Ch.wf K1) K4, ?_⟩
        simp only [wk, wt, wl, ↓reduceIte, Nat.reduceEqDiff, Nat.reduceAdd, Nat.zero_add, not_false_eq_true, not_true_eq_false, t2, t3, t6, pt, wi, intOf_int]
        exact ⟨⟨K.trans K4, j + 1, rfl, by omega⟩, by omega⟩
      · simp only [wk, wt, wl, ↓reduceIte, Nat.reduceEqDiff, Nat.reduceAdd, Nat.zero_add, not_false_eq_true, not_true_eq_false]
        exact K1
end Go.Proofs.Ytnnkcbkenofhmaa.Am
