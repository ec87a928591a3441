/- FoldRows, told of abstract memory: it answers true. -/
import Derived.Test.YtgfccaaalkkdlaaOh
set_option linter.unusedSimpArgs false
set_option linter.unusedVariables false
set_option maxHeartbeats 4000000
set_option maxRecDepth 20000
namespace Go.Proofs.Ytgfccaaalkkdlaa.Am
open Go Go.RowKit Go.Proofs.Try
theorem shut_in {l : List F} (hr : rightB l = true) {k : Nat} {f : F} (hx : l[k]? = some f) (hc : f.cl = true) {x : Int} (h1 : f.fr ≤ x) (h2 : x ≤ f.to) : shutF l x = some k ∧ shownZ l x = (f.fr, f.to) := by
  obtain ⟨r1, r2, _⟩ := rightB_at hr
  have hin : inF l x = some k := by
    rw [inF_find hr (x := x) (i := k) (fun j g hj hg => by have := r2 j k g f hj hg hx; omega) (fun g hg => by rw [hx] at hg; cases hg; omega), hx]
    simp [h1]
  have hs : shutF l x = some k := by simp [shutF, hin, hx, hc]
  exact ⟨hs, by simp [shownZ, hr, hs, hx]⟩
/-- Behind what is shown with a line a row begins. -/
theorem head_next {l : List F} (hr : rightB l = true) {x : Int} (hx : (shownZ l x).1 = x) : (shownZ l ((shownZ l x).2 + 1)).1 = (shownZ l x).2 + 1 := by
  obtain ⟨r1, r2, _⟩ := rightB_at hr
  rcases shownZ_range (l := l) (x := (shownZ l x).2 + 1) with e | ⟨k', g, hs', _, hg, hgc, g1, g2, e⟩
  · rw [e]
  · rw [e]
    simp only
    rcases shownZ_range (l := l) (x := x) with e0 | ⟨k, f, hs, _, hf, hfc, f1, f2, e0⟩
    · rw [e0] at g1 g2 ⊢
      simp only at g1 g2 ⊢
      by_cases hle : g.fr ≤ x
      · have := (shut_in hr hg hgc hle (by omega)).2
        rw [e0] at this
        simp only [Prod.mk.injEq] at this; omega
      · omega
    · rw [e0] at g1 g2 ⊢
      simp only at g1 g2 ⊢
      rcases Nat.lt_trichotomy k' k with h | h | h
      · have := r2 k' k g f h hg hf; have := r1 k f hf; omega
      · subst h; rw [hf] at hg; cases hg; omega
      · have := r2 k k' f g h hf hg; omega
theorem rows_head {l : List F} (hr : rightB l = true) {n i : Int} {e : F} {r : List F} (hi : 0 ≤ i) (hh : (shownZ l i).1 = i) (R : RowsR l n i (e :: r)) :
    e.fr = i ∧ i ≤ e.to ∧ e.to < n ∧ (e.cl = false → e.to = i) ∧ (shownZ l e.to).1 = i ∧ (r ≠ [] → nextZ1 l i = e.to + 1 ∧ RowsR l n (e.to + 1) r ∧ (shownZ l (e.to + 1)).1 = e.to + 1 ∧ prevZ l (e.to + 1) = i) ∧ (r = [] → e.to + 1 = n) := by
  cases R with
  | step h t =>
    have hn := head_next hr hh
    have hnx : nextZ1 l i = (shownZ l i).2 + 1 := rfl
    have end_ : r = [] → ¬ nextZ1 l i < n := fun e => by subst e; cases t with | done g => exact g
    have more : r ≠ [] → nextZ1 l i < n := fun e => by
      cases t with
      | done _ => exact absurd rfl e
      | step g _ => exact g
    rcases shownZ_range (l := l) (x := i) with e0 | ⟨k, f, hs, _, hf, hfc, f1, f2, e0⟩
    · rw [e0] at hnx hn
      simp only at hnx hn
      rw [hnx] at t end_ more ⊢
      simp only
      rw [if_neg (by omega)]
      have e1 : i + 1 - 1 = i := by omega
      rw [e1]
      refine ⟨trivial, by omega, h, fun _ => rfl, hh, fun hne => ⟨rfl, t, hn, ?_⟩, fun he => by have := end_ he; omega⟩
      unfold prevZ
      rw [hn, if_pos (by omega), e1, hh]
    · rw [e0] at hnx hn hh
      simp only at hnx hn hh
      rw [hnx] at t end_ more ⊢
      simp only
      have hin : ∀ x, f.fr ≤ x → x ≤ f.to → (shownZ l x).1 = i := fun x h1 h2 => by rw [(shut_in hr hf hfc h1 h2).2]; exact hh
      have hcl : ((shutF l i).isSome = false) → False := fun e => by rw [hs] at e; cases e
      refine ⟨trivial, by split <;> omega, by split <;> omega, fun e => (hcl e).elim, hin _ (by split <;> omega) (by split <;> omega), fun hne => ?_, fun he => by have := end_ he; split <;> omega⟩
      have := more hne
      rw [if_neg (by omega)]
      have e1 : f.to + 1 - 1 = f.to := by omega
      rw [e1]
      refine ⟨rfl, t, hn, ?_⟩
      unfold prevZ
      rw [hn, if_pos (by omega), e1]
      exact hin _ (by omega) (by omega)
theorem foldRows_law {v : Value} {l : List F} {n : Int} {h : Heap} (R : FR h v l) (hl : l.length ≤ 9223372036854775807) : ACalls prog 5 #[v, .int .i64 n] h (fun y h' => y = .bool true ∧ Keeps h h') := by
  refine acalls_of_W' func5 rfl (by kernel_rfl) (by kernel_rfl) (by simp [ntmps5]) ?_
  intro H
  simp only [wk, wt, wl, ↓reduceIte, Nat.reduceEqDiff, Nat.reduceAdd, Nat.zero_add, not_false_eq_true, not_true_eq_false]
  refine (refRight_ok R hl).use_pure ?_
  cases hr : rightB l with
  | false =>
    simp only [wk, wt, wl, ↓reduceIte, Nat.reduceEqDiff, Nat.reduceAdd, Nat.zero_add, not_false_eq_true, not_true_eq_false, Bool.not_false]
    refine awake_ok.use ?_
    rintro _ h2 ⟨rfl, K2⟩
    simp only [wk, wt, wl, ↓reduceIte, Nat.reduceEqDiff, Nat.reduceAdd, Nat.zero_add, not_false_eq_true, not_true_eq_false]
    exact K2
  | true =>
    simp only [wk, wt, wl, ↓reduceIte, Nat.reduceEqDiff, Nat.reduceAdd, Nat.zero_add, not_false_eq_true, not_true_eq_false, Bool.not_true]
    refine (near_ok R hl).use_pure ?_
    cases hnb : nearB l n with
    | false =>
      simp only [wk, wt, wl, ↓reduceIte, Nat.reduceEqDiff, Nat.reduceAdd, Nat.zero_add, not_false_eq_true, not_true_eq_false, Bool.not_false]
      refine awake_ok.use ?_
      rintro _ h2 ⟨rfl, K2⟩
      simp only [wk, wt, wl, ↓reduceIte, Nat.reduceEqDiff, Nat.reduceAdd, Nat.zero_add, not_false_eq_true, not_true_eq_false]
      exact K2
    | true =>
      have hn : nearF l = true ∧ n ≤ 1099511627776 ∧ -1099511627776 ≤ n := by simpa [nearB] using hnb
      obtain ⟨hn, hx1, hx2⟩ := hn
      obtain ⟨r1, r2, r3⟩ := rightB_at hr
      by_cases h1 : n < 1
      · have d1 : decide (n < 1) = true := decide_eq_true h1
        simp only [wk, wt, wl, ↓reduceIte, Nat.reduceEqDiff, Nat.reduceAdd, Nat.zero_add, not_false_eq_true, not_true_eq_false, Bool.not_true, d1]
        refine awake_ok.use ?_
        rintro _ h2 ⟨rfl, K2⟩
        simp only [wk, wt, wl, ↓reduceIte, Nat.reduceEqDiff, Nat.reduceAdd, Nat.zero_add, not_false_eq_true, not_true_eq_false]
        exact K2
      · have d1 : decide (n < 1) = false := decide_eq_false h1
        by_cases h3 : 3000 < n
        · have d2 : decide (3000 < n) = true := decide_eq_true h3
          simp only [wk, wt, wl, ↓reduceIte, Nat.reduceEqDiff, Nat.reduceAdd, Nat.zero_add, not_false_eq_true, not_true_eq_false, Bool.not_true, d1, d2]
          refine awake_ok.use ?_
          rintro _ h2 ⟨rfl, K2⟩
          simp only [wk, wt, wl, ↓reduceIte, Nat.reduceEqDiff, Nat.reduceAdd, Nat.zero_add, not_false_eq_true, not_true_eq_false]
          exact K2
        · have d2 : decide (3000 < n) = false := decide_eq_false h3
          simp only [wk, wt, wl, ↓reduceIte, Nat.reduceEqDiff, Nat.reduceAdd, Nat.zero_add, not_false_eq_true, not_true_eq_false, Bool.not_true, d1, d2]
          refine (rows_ok R hl hn (by omega) hr).use ?_
          rintro rv h2 ⟨r, hrows, RR, hrl, K2⟩
          have h00 : (shownZ l 0).1 = 0 := by
            rcases shownZ_range (l := l) (x := 0) with e | ⟨k, f, _, _, hf, _, g1, _, e⟩
            · rw [e]
            · rw [e]; have := r1 k f hf; simp only; omega
          have hp0 : prevZ l 0 = -1 := by unfold prevZ; rw [h00]; simp
          have hne0 : r ≠ [] := by
            rintro rfl
            cases hrows with | done g => omega
          simp only [wk, wt, wl, ↓reduceIte, Nat.reduceEqDiff, Nat.reduceAdd, Nat.zero_add, not_false_eq_true, not_true_eq_false]
          refine W_loop (fun tm h' => Keeps h h' ∧ tm 0 = v ∧ tm 1 = .int .i64 n ∧ tm 5 = rv ∧ FR h' rv r ∧ ∃ (k : Nat) (i la : Int), tm 8 = .int .i64 k ∧ tm 6 = .int .i64 i ∧ tm 7 = .int .i64 la ∧ k ≤ r.length ∧ 0 ≤ i ∧ i ≤ 3000 ∧
              (r.drop k ≠ [] → RowsR l n i (r.drop k) ∧ (shownZ l i).1 = i ∧ prevZ l i = la) ∧ (r.drop k = [] → i = n)) (fun tm _ => (r.length - intOf (tm 8)).toNat)
            ⟨K2, (by first | rfl | (simp only [wk, wt, wl, ↓reduceIte, Nat.reduceEqDiff, Nat.reduceAdd, Nat.zero_add, not_false_eq_true, not_true_eq_false]; done) | (simp only [wk, wt, wl, ↓reduceIte, Nat.reduceEqDiff, Nat.reduceAdd, Nat.zero_add, not_false_eq_true, not_true_eq_false]; rfl)), (by first | rfl | (simp only [wk, wt, wl, ↓reduceIte, Nat.reduceEqDiff, Nat.reduceAdd, Nat.zero_add, not_false_eq_true, not_true_eq_false]; done) | (simp only [wk, wt, wl, ↓reduceIte, Nat.reduceEqDiff, Nat.reduceAdd, Nat.zero_add, not_false_eq_true, not_true_eq_false]; rfl)), (by first | rfl | (simp only [wk, wt, wl, ↓reduceIte, Nat.reduceEqDiff, Nat.reduceAdd, Nat.zero_add, not_false_eq_true, not_true_eq_false]; done) | (simp only [wk, wt, wl, ↓reduceIte, Nat.reduceEqDiff, Nat.reduceAdd, Nat.zero_add, not_false_eq_true, not_true_eq_false]; rfl)), RR, 0, 0, -1, (by first | rfl | (simp only [wk, wt, wl, ↓reduceIte, Nat.reduceEqDiff, Nat.reduceAdd, Nat.zero_add, not_false_eq_true, not_true_eq_false]; done) | (simp only [wk, wt, wl, ↓reduceIte, Nat.reduceEqDiff, Nat.reduceAdd, Nat.zero_add, not_false_eq_true, not_true_eq_false]; rfl)), (by first | rfl | (simp only [wk, wt, wl, ↓reduceIte, Nat.reduceEqDiff, Nat.reduceAdd, Nat.zero_add, not_false_eq_true, not_true_eq_false]; done) | (simp only [wk, wt, wl, ↓reduceIte, Nat.reduceEqDiff, Nat.reduceAdd, Nat.zero_add, not_false_eq_true, not_true_eq_false]; rfl)), (by first | rfl | (simp only [wk, wt, wl, ↓reduceIte, Nat.reduceEqDiff, Nat.reduceAdd, Nat.zero_add, not_false_eq_true, not_true_eq_false]; done) | (simp only [wk, wt, wl, ↓reduceIte, Nat.reduceEqDiff, Nat.reduceAdd, Nat.zero_add, not_false_eq_true, not_true_eq_false]; rfl)), by omega, by omega, by omega, fun _ => ⟨hrows, h00, hp0⟩, fun e => absurd e hne0⟩ ?_
          clear K2 RR
          rintro tm h' ⟨K, t0, t1, t5, RR, k, i, la, t8, t6, t7, hk, hi0, hi1, hA, hB⟩
          simp only [wk, wt, wl, ↓reduceIte, Nat.reduceEqDiff, Nat.reduceAdd, Nat.zero_add, not_false_eq_true, not_true_eq_false, t0, t1, t5, t6, t7, t8, RR.len underlying22]
          refine condK_dec (fun hd => ?_) (fun hd => ?_)
          · have hk1 : k < r.length := by omega
            obtain ⟨f, hx⟩ : ∃ f, r[k]? = some f := ⟨r[k], by simp [hk1]⟩
            obtain ⟨F0, F1, F2, F3⟩ := RR.flds hx
            have IX := Rd.index RR underlying22 asz36 (q := .i64) (i := (k : Int)) (by omega) (by omega)
            simp only [Int.toNat_natCast] at IX
            have hdr := drop_at hx
            obtain ⟨hR, hhd, hpv⟩ := hA (by rw [hdr]; simp)
            rw [hdr] at hR
            obtain ⟨q0, q1, q2, q3, q4, q5, q6⟩ := rows_head hr hi0 hhd hR
            simp (disch := omega) only [wk, wt, wl, ↓reduceIte, Nat.reduceEqDiff, Nat.reduceAdd, Nat.zero_add, not_false_eq_true, not_true_eq_false, t0, t1, t5, t6, t7, t8, IX, F3]
            have K3 := Keeps.new (Ch.wf K) 36 [Value.int IntKind.i64 0, Value.int IntKind.i64 0, Value.bool false]
            have V3 := Var.new (e := 36) (Ch.wf K) (cs := [Value.int IntKind.i64 0, Value.int IntKind.i64 0, Value.bool false])
            obtain ⟨h4, e4, V4, C4, z4⟩ := V3.store (P := prog) (t := 36) (v := .agg #[.int .i64 f.fr, .int .i64 f.to, .bool f.cl]) (i := 0) (Ch.wf K3) asz36 (by simp [Value.cells]) (by simp [Value.cells, one])
            rw [e4]; clear e4
            simp only [Value.cells, over_all (xs := [Value.int IntKind.i64 0, Value.int IntKind.i64 0, Value.bool false]) (vs := [.int .i64 f.fr, .int .i64 f.to, .bool f.cl]) rfl] at V4
            have K14 := K3.step C4 (fun b hb => by omega)
            have K4 := K.trans K14
            have WW := fun {hh : Heap} {a b : Int} {cl : Bool} (V : Var hh h'.size [.int .i64 a, .int .i64 b, .bool cl]) => And.intro (V.load1 (P := prog) (t := 3) underlying3 rfl (i := 0)) (And.intro (V.load1 (P := prog) (t := 3) underlying3 rfl (i := 1)) (V.load1 (P := prog) (t := 4) underlying4 rfl (i := 2)))
            simp only [List.getElem?_cons_succ, List.getElem?_cons_zero] at WW
            have R4 : FR h4 v l := RS.keeps R K4
            have dI : decide (¬ i = i) = false := decide_eq_false (by simp)
            have dL : decide (¬ la = la) = false := decide_eq_false (by simp)
            have dT : decide (f.to < i) = false := decide_eq_false (by omega)
            have dn : decide (n ≤ f.to) = false := decide_eq_false (by omega)
            rw [q0] at V4
            simp (disch := omega) only [wk, wt, wl, ↓reduceIte, Nat.reduceEqDiff, Nat.reduceAdd, Nat.zero_add, not_false_eq_true, not_true_eq_false]
            refine adraw_order [(0, false), (1, false), (2, false), (3, false), (4, false), (5, false), (6, false), (7, false), (8, false), (9, false), (10, false), (11, false), (12, false), (13, false), (14, false), (15, false), (16, false), (17, false), (18, false), (19, false), (20, false), (21, false), (22, false), (23, false), (24, false), (25, false), (26, false), (27, false), (28, false), (29, false), (30, false), (31, false), (32, false), (34, false), (35, false), (33, true), (36, false), (37, false), (38, false), (39, false), (40, false), (41, false), (43, false), (42, true), (44, false), (45, false)] mixed (by kernel_rfl) (by kernel_rfl) (by kernel_rfl) (by repeat (first | exact PF_retK | refine PF_thenK ?_ | refine PF_blockK ?_)) ?_
            cases hcl : f.cl with
            | true =>
              rw [hcl] at V4
              simp (disch := omega) only [wk, wt, wl, ↓reduceIte, Nat.reduceEqDiff, Nat.reduceAdd, Nat.zero_add, not_false_eq_true, not_true_eq_false, dK_t, t0, t1, t5, t6, t7, t8, WW V4, dI, dT, dn, Bool.not_true]
              refine (head_ok R4 hl).use ?_
              rintro _ h5 ⟨rfl, K5⟩
              rw [q4]
              have V5 := Keeps.var (Ch.wf K4) K5 V4
              have K05 := K4.trans K5
              simp (disch := omega) only [wk, wt, wl, ↓reduceIte, Nat.reduceEqDiff, Nat.reduceAdd, Nat.zero_add, not_false_eq_true, not_true_eq_false, dK_t, t0, t1, t5, t6, t7, t8, WW V5, dI]
              refine ⟨K5.reads (Ch.wf K4), ?_⟩
              refine (prev_ok (RS.keeps R4 K5) hl hn (by omega)).use ?_
              rintro _ h6 ⟨rfl, K6⟩
              rw [hpv]
              have V6 := Keeps.var (Ch.wf K05) K6 V5
              have K06 := K05.trans K6
              simp (disch := omega) only [wk, wt, wl, ↓reduceIte, Nat.reduceEqDiff, Nat.reduceAdd, Nat.zero_add, not_false_eq_true, not_true_eq_false, dK_t, t0, t1, t5, t6, t7, t8, WW V6, dL]
              refine ⟨K6.reads (Ch.wf K05), ?_⟩
              have RR6 : FR h6 rv r := RS.keeps RR (K14.trans (K5.trans K6))
              have L6 := RR6.len underlying22
              refine adraw_order [(0, false), (1, false), (2, false), (3, false), (4, false), (5, false), (6, false), (7, false), (8, false), (10, false), (11, false), (12, false), (9, true), (13, false), (14, false)] mixed (by kernel_rfl) (by kernel_rfl) (by kernel_rfl) (by repeat (first | exact PF_retK | refine PF_thenK ?_ | refine PF_blockK ?_)) ?_
              by_cases hlast : k + 1 < r.length
              · have dm : decide ((k : Int) + 1 < r.length) = true := decide_eq_true (by omega)
                have hne : r.drop (k + 1) ≠ [] := fun e => by have := congrArg List.length e; simp at this; omega
                obtain ⟨s1, s2, s3, s4⟩ := q5 hne
                have hsb := shownZ_in hn (x := i) (by omega)
                simp (disch := omega) only [wk, wt, wl, ↓reduceIte, Nat.reduceEqDiff, Nat.reduceAdd, Nat.zero_add, not_false_eq_true, not_true_eq_false, dK_t, t0, t1, t5, t6, t7, t8, WW V6, L6, IntWalk.i64_in, dm]
                repeat (refine ⟨Reads.refl _, ?_⟩)
                refine (next_ok (RS.keeps R4 (K5.trans K6)) hl hn (by omega)).use ?_
                rintro _ h7 ⟨rfl, K7⟩
                have s1' : (shownZ l i).2 + 1 = f.to + 1 := s1
                rw [s1']
                have V7 := Keeps.var (Ch.wf K06) K7 V6
                have K07 := K06.trans K7
                have dN : decide (¬ f.to + 1 = f.to + 1) = false := decide_eq_false (by simp)
                simp (disch := omega) only [wk, wt, wl, ↓reduceIte, Nat.reduceEqDiff, Nat.reduceAdd, Nat.zero_add, not_false_eq_true, not_true_eq_false, dK_t, t0, t1, t5, t6, t7, t8, WW V7, dN, IntWalk.i64_in]
                refine ⟨K7.reads (Ch.wf K06), ?_⟩
                refine adraw_order [(0, false), (1, false), (2, false), (3, false), (4, false), (5, false), (6, false)] mixed (by kernel_rfl) (by kernel_rfl) (by kernel_rfl) (by repeat (first | exact PF_retK | refine PF_thenK ?_ | refine PF_blockK ?_)) ?_
                simp (disch := omega) only [wk, wt, wl, ↓reduceIte, Nat.reduceEqDiff, Nat.reduceAdd, Nat.zero_add, not_false_eq_true, not_true_eq_false, t0, t1, t5, t6, t7, t8, WW V7, IntWalk.i64_in, intOf_int]
                exact ⟨⟨K07, RS.keeps RR6 K7, k + 1, f.to + 1, i, by simp, rfl, rfl, by omega, by omega, by omega, fun _ => ⟨s2, s3, s4⟩, fun e => absurd e hne⟩, by omega⟩
              · have dm : decide ((k : Int) + 1 < r.length) = false := decide_eq_false (by omega)
                have he : r.drop (k + 1) = [] := List.drop_of_length_le (by omega)
                have := q6 he
                simp (disch := omega) only [wk, wt, wl, ↓reduceIte, Nat.reduceEqDiff, Nat.reduceAdd, Nat.zero_add, not_false_eq_true, not_true_eq_false, dK_t, t0, t1, t5, t6, t7, t8, WW V6, L6, IntWalk.i64_in, dm]
                repeat (refine ⟨Reads.refl _, ?_⟩)
                refine adraw_order [(0, false), (1, false), (2, false), (3, false), (4, false), (5, false), (6, false)] mixed (by kernel_rfl) (by kernel_rfl) (by kernel_rfl) (by repeat (first | exact PF_retK | refine PF_thenK ?_ | refine PF_blockK ?_)) ?_
                simp (disch := omega) only [wk, wt, wl, ↓reduceIte, Nat.reduceEqDiff, Nat.reduceAdd, Nat.zero_add, not_false_eq_true, not_true_eq_false, t0, t1, t5, t6, t7, t8, WW V6, IntWalk.i64_in, intOf_int]
                exact ⟨⟨K06, RR6, k + 1, f.to + 1, i, by simp, rfl, rfl, by omega, by omega, by omega, fun e => absurd he e, fun _ => this⟩, by omega⟩
            | false =>
              rw [hcl] at V4
              have dE : decide (¬ f.to = i) = false := decide_eq_false (by have := q3 hcl; simp [this])
              simp (disch := omega) only [wk, wt, wl, ↓reduceIte, Nat.reduceEqDiff, Nat.reduceAdd, Nat.zero_add, not_false_eq_true, not_true_eq_false, dK_t, t0, t1, t5, t6, t7, t8, WW V4, dI, dT, dn, dE, Bool.not_false]
              refine (head_ok R4 hl).use ?_
              rintro _ h5 ⟨rfl, K5⟩
              rw [q4]
              have V5 := Keeps.var (Ch.wf K4) K5 V4
              have K05 := K4.trans K5
              simp (disch := omega) only [wk, wt, wl, ↓reduceIte, Nat.reduceEqDiff, Nat.reduceAdd, Nat.zero_add, not_false_eq_true, not_true_eq_false, dK_t, t0, t1, t5, t6, t7, t8, WW V5, dI]
              refine ⟨K5.reads (Ch.wf K4), ?_⟩
              refine (prev_ok (RS.keeps R4 K5) hl hn (by omega)).use ?_
              rintro _ h6 ⟨rfl, K6⟩
              rw [hpv]
              have V6 := Keeps.var (Ch.wf K05) K6 V5
              have K06 := K05.trans K6
              simp (disch := omega) only [wk, wt, wl, ↓reduceIte, Nat.reduceEqDiff, Nat.reduceAdd, Nat.zero_add, not_false_eq_true, not_true_eq_false, dK_t, t0, t1, t5, t6, t7, t8, WW V6, dL]
              refine ⟨K6.reads (Ch.wf K05), ?_⟩
              have RR6 : FR h6 rv r := RS.keeps RR (K14.trans (K5.trans K6))
              have L6 := RR6.len underlying22
              refine adraw_order [(0, false), (1, false), (2, false), (3, false), (4, false), (5, false), (6, false), (7, false), (8, false), (10, false), (11, false), (12, false), (9, true), (13, false), (14, false)] mixed (by kernel_rfl) (by kernel_rfl) (by kernel_rfl) (by repeat (first | exact PF_retK | refine PF_thenK ?_ | refine PF_blockK ?_)) ?_
              by_cases hlast : k + 1 < r.length
              · have dm : decide ((k : Int) + 1 < r.length) = true := decide_eq_true (by omega)
                have hne : r.drop (k + 1) ≠ [] := fun e => by have := congrArg List.length e; simp at this; omega
                obtain ⟨s1, s2, s3, s4⟩ := q5 hne
                have hsb := shownZ_in hn (x := i) (by omega)
                simp (disch := omega) only [wk, wt, wl, ↓reduceIte, Nat.reduceEqDiff, Nat.reduceAdd, Nat.zero_add, not_false_eq_true, not_true_eq_false, dK_t, t0, t1, t5, t6, t7, t8, WW V6, L6, IntWalk.i64_in, dm]
                repeat (refine ⟨Reads.refl _, ?_⟩)
                refine (next_ok (RS.keeps R4 (K5.trans K6)) hl hn (by omega)).use ?_
                rintro _ h7 ⟨rfl, K7⟩
                have s1' : (shownZ l i).2 + 1 = f.to + 1 := s1
                rw [s1']
                have V7 := Keeps.var (Ch.wf K06) K7 V6
                have K07 := K06.trans K7
                have dN : decide (¬ f.to + 1 = f.to + 1) = false := decide_eq_false (by simp)
                simp (disch := omega) only [wk, wt, wl, ↓reduceIte, Nat.reduceEqDiff, Nat.reduceAdd, Nat.zero_add, not_false_eq_true, not_true_eq_false, dK_t, t0, t1, t5, t6, t7, t8, WW V7, dN, IntWalk.i64_in]
                refine ⟨K7.reads (Ch.wf K06), ?_⟩
                refine adraw_order [(0, false), (1, false), (2, false), (3, false), (4, false), (5, false), (6, false)] mixed (by kernel_rfl) (by kernel_rfl) (by kernel_rfl) (by repeat (first | exact PF_retK | refine PF_thenK ?_ | refine PF_blockK ?_)) ?_
                simp (disch := omega) only [wk, wt, wl, ↓reduceIte, Nat.reduceEqDiff, Nat.reduceAdd, Nat.zero_add, not_false_eq_true, not_true_eq_false, t0, t1, t5, t6, t7, t8, WW V7, IntWalk.i64_in, intOf_int]
                exact ⟨⟨K07, RS.keeps RR6 K7, k + 1, f.to + 1, i, by simp, rfl, rfl, by omega, by omega, by omega, fun _ => ⟨s2, s3, s4⟩, fun e => absurd e hne⟩, by omega⟩
              · have dm : decide ((k : Int) + 1 < r.length) = false := decide_eq_false (by omega)
                have he : r.drop (k + 1) = [] := List.drop_of_length_le (by omega)
                have := q6 he
                simp (disch := omega) only [wk, wt, wl, ↓reduceIte, Nat.reduceEqDiff, Nat.reduceAdd, Nat.zero_add, not_false_eq_true, not_true_eq_false, dK_t, t0, t1, t5, t6, t7, t8, WW V6, L6, IntWalk.i64_in, dm]
                repeat (refine ⟨Reads.refl _, ?_⟩)
                refine adraw_order [(0, false), (1, false), (2, false), (3, false), (4, false), (5, false), (6, false)] mixed (by kernel_rfl) (by kernel_rfl) (by kernel_rfl) (by repeat (first | exact PF_retK | refine PF_thenK ?_ | refine PF_blockK ?_)) ?_
                simp (disch := omega) only [wk, wt, wl, ↓reduceIte, Nat.reduceEqDiff, Nat.reduceAdd, Nat.zero_add, not_false_eq_true, not_true_eq_false, t0, t1, t5, t6, t7, t8, WW V6, IntWalk.i64_in, intOf_int]
                exact ⟨⟨K06, RR6, k + 1, f.to + 1, i, by simp, rfl, rfl, by omega, by omega, by omega, fun e => absurd he e, fun _ => this⟩, by omega⟩
          · have he : r.drop k = [] := List.drop_of_length_le (by omega)
            have hin := hB he
            have dn : decide (i = n) = true := decide_eq_true hin
            simp only [wk, wt, wl, ↓reduceIte, Nat.reduceEqDiff, Nat.reduceAdd, Nat.zero_add, not_false_eq_true, not_true_eq_false, t6, t1, dn]
            refine awake_ok.use ?_
            rintro _ h5 ⟨rfl, K5⟩
            simp only [wk, wt, wl, ↓reduceIte, Nat.reduceEqDiff, Nat.reduceAdd, Nat.zero_add, not_false_eq_true, not_true_eq_false]
            exact K.trans K5
end Go.Proofs.Ytgfccaaalkkdlaa.Am
