/- PatQuotes told of abstract memory. -/
import Derived.Test.YtnnkcbkenofhmaaKs
set_option linter.unusedSimpArgs false
set_option linter.unusedVariables false
set_option maxHeartbeats 4000000
set_option maxRecDepth 20000
namespace Go.Proofs.Ytnnkcbkenofhmaa.Am
open Go Go.RowKit Go.Proofs.Try
theorem runesEq_ok {h : Heap} {v w : Value} {l : List Int} (S : RdI prog h .i32 v l) (T : RdI prog h .i32 w l) (hl : l.length ≤ 100000000) : ACalls prog 15 #[v, w] h (fun y h' => y = .bool true ∧ h' = h) := by
  refine acalls_of_W func15 rfl (by kernel_rfl) (by kernel_rfl) (by simp [ntmps15]) ?_
  have L1 := S.ln (n := (l.length : Int)) rfl
  have L2 := T.ln (n := (l.length : Int)) rfl
  have d0 : decide (¬ (l.length : Int) = (l.length : Int)) = false := by simp
  simp only [wk, wt, wl, ↓reduceIte, Nat.reduceEqDiff, Nat.reduceAdd, Nat.zero_add, not_false_eq_true, not_true_eq_false, L1, L2, d0]
  refine W_loop (fun tm hh => h = hh ∧ tm 0 = v ∧ tm 1 = w ∧ ∃ i : Nat, tm 5 = .int .i64 (i : Int) ∧ i ≤ l.length) (fun tm _ => (l.length - intOf (tm 5)).toNat) ⟨rfl, (by first | rfl | (simp only [wk, wt, wl, ↓reduceIte, Nat.reduceEqDiff, Nat.reduceAdd, Nat.zero_add, not_false_eq_true, not_true_eq_false]; done) | (simp only [wk, wt, wl, ↓reduceIte, Nat.reduceEqDiff, Nat.reduceAdd, Nat.zero_add, not_false_eq_true, not_true_eq_false]; rfl)), (by first | rfl | (simp only [wk, wt, wl, ↓reduceIte, Nat.reduceEqDiff, Nat.reduceAdd, Nat.zero_add, not_false_eq_true, not_true_eq_false]; done) | (simp only [wk, wt, wl, ↓reduceIte, Nat.reduceEqDiff, Nat.reduceAdd, Nat.zero_add, not_false_eq_true, not_true_eq_false]; rfl)), 0, (by first | rfl | (simp only [wk, wt, wl, ↓reduceIte, Nat.reduceEqDiff, Nat.reduceAdd, Nat.zero_add, not_false_eq_true, not_true_eq_false]; done) | (simp only [wk, wt, wl, ↓reduceIte, Nat.reduceEqDiff, Nat.reduceAdd, Nat.zero_add, not_false_eq_true, not_true_eq_false]; rfl)), by omega⟩ ?_
  rintro tm _ ⟨rfl, t0, t1, i, t5, hi⟩
  simp only [wk, wt, wl, ↓reduceIte, Nat.reduceEqDiff, Nat.reduceAdd, Nat.zero_add, not_false_eq_true, not_true_eq_false, t0, t1, t5, L1]
  refine condK_dec (fun hd => ?_) (fun hd => ?_)
  · have hi2 : i < l.length := by omega
    obtain ⟨x, hx⟩ : ∃ x, l[i]? = some x := ⟨_, List.getElem?_eq_getElem hi2⟩
    have wi : IntKind.i64.wrap ((i : Int) + 1) = ((i + 1 : Nat) : Int) := by rw [IntWalk.i64_in _ (by omega)]; omega
    have d1 : decide (¬ x = x) = false := by simp
    refine adraw_order [(0, false), (1, false), (2, false), (3, false), (4, false), (5, false), (6, false), (7, false), (8, false)] mixed (by kernel_rfl) (by kernel_rfl) (by kernel_rfl) (by with_reducible repeat (first | exact PF_retK | refine PF_thenK ?_ | refine PF_blockK ?_)) ?_
    simp only [wk, wt, wl, ↓reduceIte, Nat.reduceEqDiff, Nat.reduceAdd, Nat.zero_add, not_false_eq_true, not_true_eq_false, t0, t1, t5, (S.ix hx).1, (S.ix hx).2, (T.ix hx).1, (T.ix hx).2, d1, wi, intOf_int]
    exact ⟨⟨i + 1, rfl, by omega⟩, by omega⟩
  · simp only [wk, wt, wl, ↓reduceIte, Nat.reduceEqDiff, Nat.reduceAdd, Nat.zero_add, not_false_eq_true, not_true_eq_false]
theorem leafs_ok : ∀ (l : List Int), PatsOk (l.map pR)
  | [] => trivial
  | x :: l => ⟨patOk_leaf (by decide), leafs_ok l⟩
theorem patQuotes_law {h : Heap} {lv : Value} {l : List Int} (S : RdI prog h .i32 lv l) (hl : l.length ≤ 100000000) (h32 : I32 l) : ACalls prog 7 #[lv] h (fun y h' => y = .bool true ∧ Keeps h h') := by
  refine acalls_of_W' func7 rfl (by kernel_rfl) (by kernel_rfl) (by simp [ntmps7]) ?_
  intro H
  have LN := fun {hh : Heap} (K : Keeps h hh) => (S.keeps K).ln (n := (l.length : Int)) rfl
  simp only [wk, wt, wl, ↓reduceIte, Nat.reduceEqDiff, Nat.reduceAdd, Nat.zero_add, not_false_eq_true, not_true_eq_false]
  refine (quote_ok S hl).use ?_
  rintro qv h1 ⟨O1, K1⟩
  simp only [wk, wt, wl, ↓reduceIte, Nat.reduceEqDiff, Nat.reduceAdd, Nat.zero_add, not_false_eq_true, not_true_eq_false, LN K1]
  refine condK_dec (fun c0 => ?_) (fun c0 => ?_)
  · simp only [wk, wt, wl, ↓reduceIte, Nat.reduceEqDiff, Nat.reduceAdd, Nat.zero_add, not_false_eq_true, not_true_eq_false]
    exact K1
  · have hq := quo_parse (l := l) (by omega)
    have hql := quo_len l
    simp only [wk, wt, wl, ↓reduceIte, Nat.reduceEqDiff, Nat.reduceAdd, Nat.zero_add, not_false_eq_true, not_true_eq_false, LN K1]
    refine (parse_ok O1.rd (by omega) (fun x hx => by
      rcases quo_mem hx with rfl | hx
      · omega
      · exact h32 x hx)).use ?_
    rintro _ h2 ⟨c2, rfl, P2, K2⟩
    rw [hq] at P2
    obtain ⟨h3, e3, V3, P3, K3, z3⟩ := var_new (K1.trans K2) P2
    have K13 := K2.trans K3
    have K03 := K1.trans K13
    have d1 : decide (¬ (0 : Int) = 0) = false := rfl
    simp only [wk, wt, wl, ↓reduceIte, Nat.reduceEqDiff, Nat.reduceAdd, Nat.zero_add, not_false_eq_true, not_true_eq_false, hq, newRe, newSz, e3, d1]
    refine (refQuote_ok (S.keeps K03) hl).use ?_
    rintro qw h4 ⟨O4, K4⟩
    simp only [wk, wt, wl, ↓reduceIte, Nat.reduceEqDiff, Nat.reduceAdd, Nat.zero_add, not_false_eq_true, not_true_eq_false]
    refine (runesEq_ok (O1.rd.keeps (K13.trans K4)) O4.rd (by omega)).use ?_
    rintro _ h5 ⟨rfl, h45⟩
    obtain rfl := h45.symm
    have K05 := K03.trans K4
    have V5 := Keeps.var (Ch.wf K03) K4 V3
    have P5 := ReR.ch K4 (fun _ e => e.elim) _ _ P3
    rcases l with _ | ⟨x, _ | ⟨y, l⟩⟩
    · have d2 : decide ((([] : List Int).length : Int) = 0) = true := rfl
      simp only [wk, wt, wl, ↓reduceIte, Nat.reduceEqDiff, Nat.reduceAdd, Nat.zero_add, not_false_eq_true, not_true_eq_false, LN K05, d2, V5.re, build_re0]
      refine (same_all _ pE c2 rc0 _ _ (Bx h2.size) (Nat.lt_succ_self _) (patOk_leaf (by decide)) P5 ReR.e).use ?_
      rintro _ h6 ⟨rfl, K6⟩
      simp only [wk, wt, wl, ↓reduceIte, Nat.reduceEqDiff, Nat.reduceAdd, Nat.zero_add, not_false_eq_true, not_true_eq_false]
      refine (awake_ok).use ?_
      rintro _ h7 ⟨rfl, K7⟩
      simp only [wk, wt, wl, ↓reduceIte, Nat.reduceEqDiff, Nat.reduceAdd, Nat.zero_add, not_false_eq_true, not_true_eq_false]
      exact (K05.trans K6).trans K7
    · have d2 : decide ((([x] : List Int).length : Int) = 0) = false := rfl
      have d3 : decide ((([x] : List Int).length : Int) = 1) = true := rfl
      have S5 := S.keeps K05
      have IX : aindexAddr prog 22 lv (.int .i64 0) = _ := (S5.ix (i := 0) rfl).1
      have LX := (S5.ix (i := 0) rfl).2
      simp only [wk, wt, wl, ↓reduceIte, Nat.reduceEqDiff, Nat.reduceAdd, Nat.zero_add, not_false_eq_true, not_true_eq_false, LN K05, d2, d3]
      refine adraw_order [(0, false), (1, false), (2, false), (3, false), (4, false), (5, true), (6, false), (7, true), (8, false), (9, false)] mixed (by kernel_rfl) (by kernel_rfl) (by kernel_rfl) (by with_reducible repeat (first | exact PF_retK | refine PF_thenK ?_ | refine PF_blockK ?_)) ?_
      simp only [wk, wt, wl, ↓reduceIte, Nat.reduceEqDiff, Nat.reduceAdd, Nat.zero_add, not_false_eq_true, not_true_eq_false, V5.re, IX, LX, build_rer]
      refine (same_all _ (pR x) c2 { rc0 with k := 1, r := x } _ _ (Bx h2.size) (Nat.lt_succ_self _) (patOk_leaf (by decide)) P5 ReR.r).use ?_
      rintro _ h6 ⟨rfl, K6⟩
      simp only [wk, wt, wl, ↓reduceIte, Nat.reduceEqDiff, Nat.reduceAdd, Nat.zero_add, not_false_eq_true, not_true_eq_false, dK_t]
      refine ⟨K6.reads (Ch.wf K05), ?_⟩
      refine (awake_ok).use ?_
      rintro _ h7 ⟨rfl, K7⟩
      simp only [wk, wt, wl, ↓reduceIte, Nat.reduceEqDiff, Nat.reduceAdd, Nat.zero_add, not_false_eq_true, not_true_eq_false, dK_t]
      refine ⟨K7.reads (Ch.wf K6), ?_⟩
      exact (K05.trans K6).trans K7
    · have d2 : decide (((x :: y :: l).length : Int) = 0) = false := decide_eq_false (by simp; omega)
      have d3 : decide (((x :: y :: l).length : Int) = 1) = false := decide_eq_false (by simp; omega)
      generalize hll : x :: y :: l = ll at *
      have hcat : pCat (ll.map pR) = .mk 8 0 [] false 0 0 (ll.map pR) := by rw [← hll]; rfl
      rw [hcat] at P5
      obtain ⟨a1, a2, a3, a4, a5, a6, a7, a8, cl, S5, A5⟩ := P5
      have LK := V5.k0
      rw [a1] at LK
      have LNP : ∀ {hh : Heap}, Keeps h4 hh → abuiltin prog .len #[24] #[c2.pv] = some (.int .i64 (ll.length : Int)) := fun K => by
        have := RS.len (RS.keeps S5 K) underlying24
        rw [A5.len, List.length_map] at this; exact this
      have d4 : decide (¬ (8 : Int) = 8) = false := rfl
      have d5 : decide (¬ (ll.length : Int) = (ll.length : Int)) = false := by simp
      simp only [wk, wt, wl, ↓reduceIte, Nat.reduceEqDiff, Nat.reduceAdd, Nat.zero_add, not_false_eq_true, not_true_eq_false, LN K05, d2, d3, LK, V5.k6, d4, LNP (Keeps.refl (Ch.wf K4)), d5]
      refine W_loop (fun tm hh => Keeps h4 hh ∧ tm 0 = lv ∧ tm 4 = pt h2.size ∧ ∃ i : Nat, tm 6 = .int .i64 (i : Int) ∧ i ≤ ll.length) (fun tm _ => (ll.length - intOf (tm 6)).toNat) ⟨Keeps.refl (Ch.wf K4), (by first | rfl | (simp only [wk, wt, wl, ↓reduceIte, Nat.reduceEqDiff, Nat.reduceAdd, Nat.zero_add, not_false_eq_true, not_true_eq_false]; done) | (simp only [wk, wt, wl, ↓reduceIte, Nat.reduceEqDiff, Nat.reduceAdd, Nat.zero_add, not_false_eq_true, not_true_eq_false]; rfl)), (by first | rfl | (simp only [wk, wt, wl, ↓reduceIte, Nat.reduceEqDiff, Nat.reduceAdd, Nat.zero_add, not_false_eq_true, not_true_eq_false]; done) | (simp only [wk, wt, wl, ↓reduceIte, Nat.reduceEqDiff, Nat.reduceAdd, Nat.zero_add, not_false_eq_true, not_true_eq_false]; rfl) | (simp only [wk, wt, wl, ↓reduceIte, Nat.reduceEqDiff, Nat.reduceAdd, Nat.zero_add, not_false_eq_true, not_true_eq_false, pt]; done) | (simp only [wk, wt, wl, ↓reduceIte, Nat.reduceEqDiff, Nat.reduceAdd, Nat.zero_add, not_false_eq_true, not_true_eq_false, pt]; rfl)), 0, (by first | rfl | (simp only [wk, wt, wl, ↓reduceIte, Nat.reduceEqDiff, Nat.reduceAdd, Nat.zero_add, not_false_eq_true, not_true_eq_false]; done) | (simp only [wk, wt, wl, ↓reduceIte, Nat.reduceEqDiff, Nat.reduceAdd, Nat.zero_add, not_false_eq_true, not_true_eq_false]; rfl)), by omega⟩ ?_
      rintro tm hh ⟨K, t0, t4, i, t6, hi⟩
      have KH := K05.trans K
      have VH := Keeps.var (Ch.wf K4) K V5
      simp only [wk, wt, wl, ↓reduceIte, Nat.reduceEqDiff, Nat.reduceAdd, Nat.zero_add, not_false_eq_true, not_true_eq_false, t0, t4, t6, LN KH]
      refine condK_dec (fun hd => ?_) (fun hd => ?_)
      · have hi2 : i < ll.length := by omega
        obtain ⟨z, hz⟩ : ∃ z, ll[i]? = some z := ⟨_, List.getElem?_eq_getElem hi2⟩
        have hzp : (ll.map pR)[i]? = some (pR z) := by rw [List.getElem?_map, hz]; rfl
        obtain ⟨c', hc', Q⟩ := (RePs.ch K (fun _ e => e.elim) _ _ A5).at hzp
        have hcl := A5.len
        rw [List.length_map] at hcl
        have IX := Rd.index (RS.keeps S5 K) underlying24 asz26 (q := .i64) (i := (i : Int)) (by omega) (by omega)
        rw [Int.toNat_natCast] at IX
        have LX : aload prog hh 26 (eltA c2.pv 7 i) = some (reV c') := RS.agg (RS.keeps S5 K) reC_len underlying26 rfl asz26 hc'
        have IZ := ((S.keeps KH).ix hz).1
        have LZ := ((S.keeps KH).ix hz).2
        have wi : IntKind.i64.wrap ((i : Int) + 1) = ((i + 1 : Nat) : Int) := by rw [IntWalk.i64_in _ (by omega)]; omega
        refine adraw_order [(0, false), (1, false), (2, false), (3, false), (4, false), (5, false), (6, false), (7, false), (8, false), (9, false), (10, true), (11, false)] mixed (by kernel_rfl) (by kernel_rfl) (by kernel_rfl) (by with_reducible repeat (first | exact PF_retK | refine PF_thenK ?_ | refine PF_blockK ?_)) ?_
        simp only [wk, wt, wl, ↓reduceIte, Nat.reduceEqDiff, Nat.reduceAdd, Nat.zero_add, not_false_eq_true, not_true_eq_false, t0, t4, t6, pt, VH.k6, IX, LX, IZ, LZ, build_rer]
        refine (same_all _ (pR z) c' { rc0 with k := 1, r := z } _ _ (Bx h2.size) (Nat.lt_succ_self _) (patOk_leaf (by decide)) Q ReR.r).use ?_
        rintro _ h6 ⟨rfl, K6⟩
        simp only [wk, wt, wl, ↓reduceIte, Nat.reduceEqDiff, Nat.reduceAdd, Nat.zero_add, not_false_eq_true, not_true_eq_false, dK_t]
        refine ⟨K6.reads (Ch.wf KH), ?_⟩
        simp only [wk, wt, wl, ↓reduceIte, Nat.reduceEqDiff, Nat.reduceAdd, Nat.zero_add, not_false_eq_true, not_true_eq_false, t0, t4, t6, pt, wi, intOf_int]
        exact ⟨⟨K.trans K6, i + 1, rfl, by omega⟩, by omega⟩
      · simp only [wk, wt, wl, ↓reduceIte, Nat.reduceEqDiff, Nat.reduceAdd, Nat.zero_add, not_false_eq_true, not_true_eq_false]
        refine (awake_ok).use ?_
        rintro _ h7 ⟨rfl, K7⟩
        simp only [wk, wt, wl, ↓reduceIte, Nat.reduceEqDiff, Nat.reduceAdd, Nat.zero_add, not_false_eq_true, not_true_eq_false]
        exact KH.trans K7
end Go.Proofs.Ytnnkcbkenofhmaa.Am
