/- The texts of this seat, one behind another (part 10 of 16): the frame (an abstract machine), the contracts of functions, the laws. -/
import Derived.Test.YtiebaefhlacekaaGreatDoorZ7
import Derived.Test.YtiebaefhlacekaaGreatDoorZ9
section
/- Files: the look at both, and the play, by walks. -/
set_option linter.unusedSimpArgs false
set_option linter.unusedVariables false
set_option maxHeartbeats 16000000
set_option maxRecDepth 20000
namespace Go.Proofs.YtiebaefhlacekaaGreatDoor.Am
open Go Go.RowKit Go.Proofs.Tryz
theorem DV.keys {h : Heap} {b r : Nat} {fv : Value} {es : List (ByteArray × Value)} {D : List (ByteArray × List Int)} (V : DV h b r fv es D) : es.map (·.1) = D.map (·.1) := by
  refine List.ext_getElem? fun i => ?_
  rw [List.getElem?_map, List.getElem?_map]
  by_cases hi : i < es.length
  · have hD : i < D.length := by rw [← V.1]; exact hi
    rw [List.getElem?_eq_getElem hi, List.getElem?_eq_getElem hD]
    have := (V.2 i _ _ (List.getElem?_eq_getElem hi) (List.getElem?_eq_getElem hD)).1
    simp [this]
  · rw [List.getElem?_eq_none (by omega), List.getElem?_eq_none (by have := V.1; omega)]; rfl
theorem nameB_size {s : ByteArray} (h : nameB s = true) : s.size ≤ 64 := (of_decide_eq_true h).2.1
theorem encStr_kB {s : ByteArray} : encStr (kB s) = .string s := by
  have : (⟨(kB s).toArray⟩ : ByteArray) = s := by unfold kB; rfl
  show Value.string _ = _
  rw [this]
section
variable {h0 h : Heap} {b xb : Nat} {fl : List Int} {D X : List (ByteArray × List Int)}
theorem same_ok (P : PQ h0 h b xb fl D X) : ACalls prog 7 #[pt b, pt xb] h (fun y h' => y = .bool true ∧ PQ h0 h' b xb fl D X) := by
  refine acalls_of_W' func7 rfl (by kernel_rfl) (by kernel_rfl) (by simp [ntmps7]) ?_
  intro H
  obtain ⟨A, r, fv, es, Lv, Nv, E, P0⟩ := P
  have hk := P0.s.d.keys
  have hX := A.len
  have hle := A.le
  have hel := P0.s.d.1
  have hEl := P0.x.len
  simp only [wk, wt, wl, ↓reduceIte, Nat.reduceEqDiff, Nat.reduceAdd, Nat.zero_add, not_false_eq_true, not_true_eq_false]
  refine (names_ok P0.s.m (by rw [hk]; exact A.kn.keys) (fun e he => ?_) (by omega)).use ?_
  · have : e.1 ∈ D.map (·.1) := by rw [← hk]; exact List.mem_map_of_mem he
    obtain ⟨p, hp, e1⟩ := List.mem_map.1 this
    have := nameB_size (A.nm p hp)
    rw [← e1]; omega
  rintro nv h1 ⟨ts, hp, RN, _, K1⟩
  have hp' : ts.Perm (D.map fun d => kB d.1) := by
    have e : (es.map fun e => e.1.data.toList) = D.map fun d => kB d.1 := by
      have := congrArg (List.map kB) hk
      rw [List.map_map, List.map_map] at this
      exact this
    rw [← e]; exact hp
  rw [A.names hp', hp'.length_eq, List.length_map, hX] at RN
  have P1 := P0.keeps K1
  have ML := P1.x.var.load1 (P := prog) (t := 26) underlying26 rfl (i := 0)
  have MN := P1.x.var.load1 (P := prog) (t := 27) underlying27 rfl (i := 1)
  simp only [List.getElem?_cons_succ, List.getElem?_cons_zero] at ML MN
  have lenN := Rd.len RN underlying54
  have lenE := P1.x.row.len underlying26
  rw [hEl] at lenE
  have lenF := Rd.len P1.x.own.1 underlying27
  have dn : ∀ a : Int, decide (¬ a = a) = false := fun a => decide_eq_false fun g => g rfl
  simp only [wk, wt, wl, ↓reduceIte, Nat.reduceEqDiff, Nat.reduceAdd, Nat.zero_add, not_false_eq_true, not_true_eq_false]
  refine adraw_order [(0, false), (1, false), (2, false), (3, false), (4, false), (5, false), (6, false), (7, false), (8, false), (9, false), (11, false), (12, false), (13, false), (14, false), (15, false), (10, true), (16, false), (17, false)] mixed (by kernel_rfl) (by kernel_rfl) (by kernel_rfl) (by with_reducible repeat (first | exact PF_retK | refine PF_thenK ?_ | refine PF_blockK ?_)) ?_
  simp only [wk, wt, wl, ↓reduceIte, Nat.reduceEqDiff, Nat.reduceAdd, Nat.zero_add, not_false_eq_true, not_true_eq_false, dK_t, pt, lenN, ML, lenE, MN, lenF, dn]
  refine (waits_ok P1.s.m).use_pure ?_
  simp only [wk, wt, wl, ↓reduceIte, Nat.reduceEqDiff, Nat.reduceAdd, Nat.zero_add, not_false_eq_true, not_true_eq_false, dK_t, pt, dn]
  refine ⟨fun b k hk => ⟨k, hk, rfl, rfl, id⟩, ?_⟩
  have hnum0 : numZ 0 = 0 := rfl
  refine W_loop (fun tm h' => tm 0 = pt b ∧ tm 1 = pt xb ∧ tm 5 = nv ∧ Keeps h1 h' ∧ ∃ (i : Nat), tm 6 = .int .i64 i ∧ i ≤ X.length) (fun tm _ => (X.length - intOf (tm 6)).toNat)
    ⟨(by first | rfl | (simp only [wk, wt, wl, ↓reduceIte, Nat.reduceEqDiff, Nat.reduceAdd, Nat.zero_add, not_false_eq_true, not_true_eq_false]; done) | (simp only [wk, wt, wl, ↓reduceIte, Nat.reduceEqDiff, Nat.reduceAdd, Nat.zero_add, not_false_eq_true, not_true_eq_false]; rfl)), (by first | rfl | (simp only [wk, wt, wl, ↓reduceIte, Nat.reduceEqDiff, Nat.reduceAdd, Nat.zero_add, not_false_eq_true, not_true_eq_false]; done) | (simp only [wk, wt, wl, ↓reduceIte, Nat.reduceEqDiff, Nat.reduceAdd, Nat.zero_add, not_false_eq_true, not_true_eq_false]; rfl)), (by first | rfl | (simp only [wk, wt, wl, ↓reduceIte, Nat.reduceEqDiff, Nat.reduceAdd, Nat.zero_add, not_false_eq_true, not_true_eq_false]; done) | (simp only [wk, wt, wl, ↓reduceIte, Nat.reduceEqDiff, Nat.reduceAdd, Nat.zero_add, not_false_eq_true, not_true_eq_false]; rfl)), Keeps.refl (Ch.wf K1), 0, (by first | rfl | (simp only [wk, wt, wl, ↓reduceIte, Nat.reduceEqDiff, Nat.reduceAdd, Nat.zero_add, not_false_eq_true, not_true_eq_false]; done) | (simp only [wk, wt, wl, ↓reduceIte, Nat.reduceEqDiff, Nat.reduceAdd, Nat.zero_add, not_false_eq_true, not_true_eq_false]; rfl)), by omega⟩ ?_
  rintro tm h' ⟨t0, t1, t5, K, i, t6, hi⟩
  simp only [wk, wt, wl, ↓reduceIte, Nat.reduceEqDiff, Nat.reduceAdd, Nat.zero_add, not_false_eq_true, not_true_eq_false, t5, t6, lenN]
  refine condK_dec (fun hd => ?_) (fun hd => ?_)
  · have hi1 : i < X.length := by omega
    have hi2 : i < E.length := by omega
    have P' := P1.keeps K
    have RN' := RN.keeps K
    have IN := Rd.index RN' underlying54 asz9 (q := .i64) (i := (i : Int)) (by omega) (by omega)
    have AN := Rd.at0 RN' (t := 9) underlying9 rfl hi1 (by decide)
    simp only [Int.toNat_natCast] at IN
    have eN : ((X.map fun d => kB d.1).map encStr)[i * 1]? = some (.string X[i].1) := by
      rw [Nat.mul_one, List.getElem?_map, List.getElem?_map, List.getElem?_eq_getElem hi1]
      simp [encStr_kB]
    rw [eN] at AN
    simp only [wk, wt, wl, ↓reduceIte, Nat.reduceEqDiff, Nat.reduceAdd, Nat.zero_add, not_false_eq_true, not_true_eq_false, t0, t5, t6, IN, AN]
    refine (bytes_ok (s := X[i].1) P'.s.m P'.s.d).use ?_
    rintro _ h2 ⟨got, rfl, RG, K2, _, _⟩
    have P2 := P'.keeps K2
    have RN2 := RN'.keeps K2
    have hmem : X[i] ∈ X := List.getElem_mem hi1
    have hg : getD' X X[i].1 = some X[i].2 := (getD_iff A.srt.kn).2 hmem
    have hnm : nameB X[i].1 = true := A.nm _ ((A.mem _).2 hmem)
    have e1 : bytE D X[i].1 = 0 := by rw [A.bytE]; unfold bytE; rw [if_neg (by rw [hnm]; decide), hg]
    have e2 : bytL D X[i].1 = X[i].2 := by rw [A.bytL]; unfold bytL; rw [if_neg (by rw [hnm]; decide), hg]
    rw [e2] at RG
    rw [e1]
    have he : E[i]? = some E[i] := List.getElem?_eq_getElem hi2
    obtain ⟨f1, f2, _, _⟩ := P2.x.ev i _ _ he (List.getElem?_eq_getElem hi1)
    obtain ⟨p0, p0', p1⟩ := P2.x.fld he
    rw [f1] at p0 p0'
    have ML2 := P2.x.var.load1 (P := prog) (t := 26) underlying26 rfl (i := 0)
    simp only [List.getElem?_cons_zero] at ML2
    have IX := Rd.index P2.x.row underlying26 asz58 (q := .i64) (i := (i : Int)) (by omega) (by omega)
    have AN2 := Rd.at0 RN2 (t := 9) underlying9 rfl hi1 (by decide)
    rw [eN] at AN2
    simp only [Int.toNat_natCast] at IX
    simp only [wk, wt, wl, ↓reduceIte, Nat.reduceEqDiff, Nat.reduceAdd, Nat.zero_add, not_false_eq_true, not_true_eq_false]
    refine adraw_order [(0, false), (1, false), (2, false), (3, false), (4, false), (5, false), (6, false), (7, false), (8, false), (9, false), (10, false), (11, false), (12, false), (13, false), (14, false), (15, false), (16, false), (17, false), (18, false), (19, false), (20, false), (21, false), (22, false), (23, false), (24, false), (25, false), (26, false), (27, false), (28, false), (29, false), (30, false)] mixed (by kernel_rfl) (by kernel_rfl) (by kernel_rfl) (by with_reducible repeat (first | exact PF_retK | refine PF_thenK ?_ | refine PF_blockK ?_)) ?_
    simp only [wk, wt, wl, ↓reduceIte, Nat.reduceEqDiff, Nat.reduceAdd, Nat.zero_add, not_false_eq_true, not_true_eq_false, dK_t, pt, t1, t5, t6, hnum0, dn, IN, AN2, ML2, IX, p0, p0', p1, str_nef, conv_str RG, conv_str f2]
    simp (disch := omega) only [wk, wt, wl, ↓reduceIte, Nat.reduceEqDiff, Nat.reduceAdd, Nat.zero_add, not_false_eq_true, not_true_eq_false, dK_t, t1, t5, t6, IntWalk.i64_in, intOf_int]
    all_goals exact ⟨⟨t0, K.trans K2, i + 1, by simp, by omega⟩, by omega⟩
  · simp only [wk, wt, wl, ↓reduceIte, Nat.reduceEqDiff, Nat.reduceAdd, Nat.zero_add, not_false_eq_true, not_true_eq_false]
    all_goals exact ⟨A, _, _, _, _, _, _, P1.keeps K⟩
end
/-- A deed, as it lies in the row that was handed in. -/
structure Dd where
  k : Int
  n : Int
  s : ByteArray
  lv : Value
  L : List (List Int)
  bv : Value
  xs : List Int
def cDd (d : Dd) : List Value := [.int .i64 d.k, .int .i64 d.n, .string d.s, d.lv, d.bv]
theorem cDd_len (d : Dd) : (cDd d).length = 5 := rfl
structure Dd.ok (h : Heap) (d : Dd) : Prop where
  text : LR h d.lv d.L
  runes : ∀ i j, isR ((d.L.getD i []).getD j 0)
  bytes : RdI prog h .u8 d.bv d.xs
  isb : ∀ x, x ∈ d.xs → isB x
  name : d.s.size ≤ 1000000000000
  rows : d.L.length ≤ 1000000000000 ∧ lenS d.L ≤ 1000000000000
theorem azero_rf : azero prog 29 = some (.agg #[.slice none 0 0, .slice none 0 0]) := azero29
theorem build_rf : abuild prog 29 #[] = some (.agg #[.slice none 0 0, .slice none 0 0]) := by simp [abuild, wt, aplaces, Instr.fill, Value.cells]
theorem boxV_rf {h : Heap} : boxV prog h 29 (.agg #[.slice none 0 0, .slice none 0 0]) = some (.pointer (some ⟨h.size, 0, none⟩), h.new 29 [.slice none 0 0, .slice none 0 0]) := by
  simp [boxV, asz29, Value.cells, one]
section
variable {h : Heap}
theorem PS.begin {h1 : Heap} {b r : Nat} (H : Wf h) (M : FK h1 b r (.slice none 0 0) [] []) (K : Keeps h h1) (hb : h.size ≤ b) (hr : h.size ≤ r) :
    PS h (h1.new 29 [.slice none 0 0, .slice none 0 0]) b r (.slice none 0 0) [] [] [] h1.size (.slice none 0 0) (.slice none 0 0) [] [] [] := by
  have S1 : SF h h1 b r (.slice none 0 0) [] [] [] := SF.begin (Keeps.refl H) K M hb hr
  have H1 := Ch.wf K
  have K2 := Keeps.new H1 29 [Value.slice none 0 0, Value.slice none 0 0]
  have V2 := Var.new (e := 29) H1 (cs := [Value.slice none 0 0, Value.slice none 0 0])
  have hbl := M.var.lt H1
  have hrl := M.lt
  refine ⟨S1.keeps K2, ⟨V2, Rd.nil0, OwnR.nil0, (fun e => by cases e), fun z e => (by cases e), rfl, fun i e d he => by simp at he⟩, Ch.le K, fun z k e => (by cases e), fun z hz F => ?_, fun z hz F => ?_⟩
  · rcases hz with e | e | e | ⟨e, he, _⟩
    · rcases F with g | g | ⟨y, g, _⟩
      · omega
      · omega
      · cases g
    · rcases F with g | g | ⟨y, g, _⟩
      · omega
      · omega
      · cases g
    · cases e
    · cases he
  · rcases hz with e | e | e | ⟨e, he, _⟩
    · rcases F with g | g | ⟨y, g, _⟩
      · omega
      · omega
      · cases g
    · cases e
    · cases e
    · cases he
theorem filesPlays_law {v : Value} {ds : List Dd} (R : RS prog h 5 cDd v ds) (hd : ∀ d, d ∈ ds → d.ok h) (hl : ds.length ≤ 1000000000000) :
    ACalls prog 3 #[v] h (fun y h' => y = .bool true ∧ Keeps h h') := by
  refine acalls_of_W' func3 rfl (by kernel_rfl) (by kernel_rfl) (by simp [ntmps3]) ?_
  intro H
  have PN := fun {a : Addr} => ptr_some (P := prog) (a := a) underlying23
  simp only [wk, wt, wl, ↓reduceIte, Nat.reduceEqDiff, Nat.reduceAdd, Nat.zero_add, not_false_eq_true, not_true_eq_false]
  refine new_ok.use ?_
  rintro _ h1 ⟨b, r, rfl, M1, K1, hb, hr⟩
  have P2 := PS.begin H M1 K1 hb hr
  simp only [wk, wt, wl, ↓reduceIte, Nat.reduceEqDiff, Nat.reduceAdd, Nat.zero_add, not_false_eq_true, not_true_eq_false, aeff_box, build_rf, boxV_rf, pt, PN]
  refine W_loop (fun tm h' => tm 0 = v ∧ tm 3 = pt b ∧ tm 4 = pt h1.size ∧ ∃ (i : Nat) (fl : List Int) (D X : List (ByteArray × List Int)), tm 5 = .int .i64 i ∧ i ≤ ds.length ∧ i ≤ 60 ∧ fl.length ≤ i ∧ PQ h h' b h1.size fl D X) (fun tm _ => (60 - intOf (tm 5)).toNat)
    ⟨(by first | rfl | (simp only [wk, wt, wl, ↓reduceIte, Nat.reduceEqDiff, Nat.reduceAdd, Nat.zero_add, not_false_eq_true, not_true_eq_false]; done) | (simp only [wk, wt, wl, ↓reduceIte, Nat.reduceEqDiff, Nat.reduceAdd, Nat.zero_add, not_false_eq_true, not_true_eq_false]; rfl)), (by first | rfl | (simp only [wk, wt, wl, ↓reduceIte, Nat.reduceEqDiff, Nat.reduceAdd, Nat.zero_add, not_false_eq_true, not_true_eq_false]; done) | (simp only [wk, wt, wl, ↓reduceIte, Nat.reduceEqDiff, Nat.reduceAdd, Nat.zero_add, not_false_eq_true, not_true_eq_false]; rfl)), (by first | rfl | (simp only [wk, wt, wl, ↓reduceIte, Nat.reduceEqDiff, Nat.reduceAdd, Nat.zero_add, not_false_eq_true, not_true_eq_false]; done) | (simp only [wk, wt, wl, ↓reduceIte, Nat.reduceEqDiff, Nat.reduceAdd, Nat.zero_add, not_false_eq_true, not_true_eq_false]; rfl)), 0, [], [], [], (by first | rfl | (simp only [wk, wt, wl, ↓reduceIte, Nat.reduceEqDiff, Nat.reduceAdd, Nat.zero_add, not_false_eq_true, not_true_eq_false]; done) | (simp only [wk, wt, wl, ↓reduceIte, Nat.reduceEqDiff, Nat.reduceAdd, Nat.zero_add, not_false_eq_true, not_true_eq_false]; rfl)), by omega, by omega, Nat.le_refl _, AG.nil, _, _, _, _, _, _, P2⟩ ?_
  rintro tm h' ⟨t0, t3, t4, i, fl, D, X, t5, hi, hi6, hfl, A, r2, fv, es, Lv, Nv, E, P⟩
  have R' := R.keeps P.s.k
  have lenR := R'.len underlying22
  by_cases c1 : (i : Int) < ds.length
  · by_cases c2 : (i : Int) < 60
    · have hi1 : i < ds.length := by omega
      obtain ⟨d, hdi⟩ : ∃ d, ds[i]? = some d := ⟨ds[i], List.getElem?_eq_getElem hi1⟩
      have Od := hd d (List.mem_of_getElem? hdi)
      have IX := Rd.index R' underlying22 asz34 (q := .i64) (i := (i : Int)) (by omega) (by omega)
      simp only [Int.toNat_natCast] at IX
      have F3 := R'.fld cDd_len (t := 31) underlying31 rfl hdi (j := 3) (by decide)
      have F4 := R'.fld cDd_len (t := 32) underlying32 rfl hdi (j := 4) (by decide)
      have FA := R'.agg cDd_len (t := 34) underlying34 rfl asz34 hdi
      have F3 : aload prog h' 31 ⟨(eltA v 5 i).block, (eltA v 5 i).off + 3, none⟩ = some d.lv := F3
      have F4 : aload prog h' 32 ⟨(eltA v 5 i).block, (eltA v 5 i).off + 4, none⟩ = some d.bv := F4
      have FA : aload prog h' 34 (eltA v 5 i) = some (.agg #[.int .i64 d.k, .int .i64 d.n, .string d.s, d.lv, d.bv]) := FA
      simp only [wk, wt, wl, ↓reduceIte, Nat.reduceEqDiff, Nat.reduceAdd, Nat.zero_add, not_false_eq_true, not_true_eq_false, t0, t3, t4, t5, lenR, decide_eq_true c1, decide_eq_true c2, IX, F3]
      refine (small_ok (Od.text.keeps P.s.k) Od.rows).use_pure ?_
      cases hs : smallB d.L with
      | false =>
        simp only [wk, wt, wl, ↓reduceIte, Nat.reduceEqDiff, Nat.reduceAdd, Nat.zero_add, not_false_eq_true, not_true_eq_false, t0, t3, t4, t5, Bool.not_false]
        simp (disch := omega) only [wk, wt, wl, ↓reduceIte, Nat.reduceEqDiff, Nat.reduceAdd, Nat.zero_add, not_false_eq_true, not_true_eq_false, t0, t3, t4, t5, IntWalk.i64_in, intOf_int]
        all_goals exact ⟨⟨i + 1, fl, D, X, by simp, by omega, by omega, by omega, A, _, _, _, _, _, _, P⟩, by omega⟩
      | true =>
        by_cases c3 : (3000 : Int) < d.xs.length
        · simp only [wk, wt, wl, ↓reduceIte, Nat.reduceEqDiff, Nat.reduceAdd, Nat.zero_add, not_false_eq_true, not_true_eq_false, t0, t3, t4, t5, Bool.not_true, IX, F4, Rd.len Od.bytes underlying32, decide_eq_true c3]
          simp (disch := omega) only [wk, wt, wl, ↓reduceIte, Nat.reduceEqDiff, Nat.reduceAdd, Nat.zero_add, not_false_eq_true, not_true_eq_false, t0, t3, t4, t5, IntWalk.i64_in, intOf_int]
          all_goals exact ⟨⟨i + 1, fl, D, X, by simp, by omega, by omega, by omega, A, _, _, _, _, _, _, P⟩, by omega⟩
        · simp only [wk, wt, wl, ↓reduceIte, Nat.reduceEqDiff, Nat.reduceAdd, Nat.zero_add, not_false_eq_true, not_true_eq_false, t0, t3, t4, t5, Bool.not_true, IX, F4, Rd.len Od.bytes underlying32, decide_eq_false c3, FA]
          refine (do_ok (h0 := h) ⟨A, _, _, _, _, _, _, P⟩ ⟨Od.text, Od.runes, hs, Od.bytes, Od.isb, by omega, Od.name⟩ (by omega)).use ?_
          rintro _ h2 ⟨rfl, fl2, D2, X2, Q2, hf2⟩
          simp only [wk, wt, wl, ↓reduceIte, Nat.reduceEqDiff, Nat.reduceAdd, Nat.zero_add, not_false_eq_true, not_true_eq_false, t0, t3, t4, t5, Bool.not_true]
          refine (same_ok Q2).use ?_
          rintro _ h3 ⟨rfl, Q3⟩
          simp only [wk, wt, wl, ↓reduceIte, Nat.reduceEqDiff, Nat.reduceAdd, Nat.zero_add, not_false_eq_true, not_true_eq_false, t0, t3, t4, t5, Bool.not_true]
          simp (disch := omega) only [wk, wt, wl, ↓reduceIte, Nat.reduceEqDiff, Nat.reduceAdd, Nat.zero_add, not_false_eq_true, not_true_eq_false, t0, t3, t4, t5, IntWalk.i64_in, intOf_int]
          all_goals exact ⟨⟨i + 1, fl2, D2, X2, by simp, by omega, by omega, by omega, Q3⟩, by omega⟩
    · simp only [wk, wt, wl, ↓reduceIte, Nat.reduceEqDiff, Nat.reduceAdd, Nat.zero_add, not_false_eq_true, not_true_eq_false, t0, t5, lenR, decide_eq_true c1, decide_eq_false c2]
      refine awake_ok.use ?_
      rintro _ h2 ⟨rfl, K2⟩
      simp only [wk, wt, wl, ↓reduceIte, Nat.reduceEqDiff, Nat.reduceAdd, Nat.zero_add, not_false_eq_true, not_true_eq_false]
      all_goals exact P.s.k.trans K2
  · simp only [wk, wt, wl, ↓reduceIte, Nat.reduceEqDiff, Nat.reduceAdd, Nat.zero_add, not_false_eq_true, not_true_eq_false, t0, t5, lenR, decide_eq_false c1]
    refine awake_ok.use ?_
    rintro _ h2 ⟨rfl, K2⟩
    simp only [wk, wt, wl, ↓reduceIte, Nat.reduceEqDiff, Nat.reduceAdd, Nat.zero_add, not_false_eq_true, not_true_eq_false]
    all_goals exact P.s.k.trans K2
end
end Go.Proofs.YtiebaefhlacekaaGreatDoor.Am
end
