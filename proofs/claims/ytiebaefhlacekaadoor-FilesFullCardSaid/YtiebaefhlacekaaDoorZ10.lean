/- The texts of this seat, one behind another (part 10 of 15): the frame (an abstract machine), the contracts of functions, the laws. -/
import Derived.Test.YtiebaefhlacekaaDoorZ7
import Derived.Test.YtiebaefhlacekaaDoorZ9
section
/- Files: the law FilesFull told of abstract memory. -/
set_option linter.unusedSimpArgs false
set_option linter.unusedVariables false
set_option maxHeartbeats 16000000
set_option maxRecDepth 40000
namespace Go.Proofs.YtiebaefhlacekaaDoor.Am
open Go Go.RowKit Go.Proofs.Tryd
/-- The names that the law gives. -/
def nmL (i : Nat) : List Int := [97 + (i / 10 : Nat), 48 + (i % 10 : Nat)]
def nm (i : Nat) : ByteArray := strOfNums (nmL i)
theorem nmL_isB {i : Nat} (h : i < 100) : ∀ x, x ∈ nmL i → isB x := fun x hx => by
  simp only [nmL, List.mem_cons, List.not_mem_nil, or_false] at hx
  unfold isB; omega
theorem nm_inj {i j : Nat} (hi : i < 100) (hj : j < 100) (h : nm i = nm j) : i = j := by
  have := (strEq (nmL_isB hi) (nmL_isB hj)).1 (by unfold nm at h; rw [h])
  simp only [nmL, List.cons.injEq, and_true] at this
  omega
theorem idxB_neg {c : UInt8} : ∀ {l : List UInt8}, (∀ b, b ∈ l → b ≠ c) → ¬ 0 ≤ Lib.indexByte l c := fun {l} h g => by
  rw [idxB_none h] at g; omega
theorem nm_size {i : Nat} : (nm i).size = 2 := by unfold nm; rw [strOfNums_size]; rfl
theorem nm_ok {i : Nat} (h : i < 100) : nameB (nm i) = true := by
  unfold nameB
  refine decide_eq_true ⟨by rw [nm_size]; decide, by rw [nm_size]; decide, idxB_neg fun b hb e => ?_⟩
  have hd : (nm i).data.toList = (nmL i).map fun x => UInt8.ofNat x.toNat := by unfold nm; rw [strOfNums_data]
  rw [hd] at hb
  obtain ⟨x, hx, rfl⟩ := List.mem_map.1 hb
  have hB := nmL_isB h x hx
  have := u8_inj hB (c := 10) ⟨by decide, by decide⟩
  have hne : x ≠ 10 := by
    simp only [nmL, List.mem_cons, List.not_mem_nil, or_false] at hx
    omega
  rw [decide_eq_false hne] at this
  have e2 : x.toNat.toUInt8 = (10 : Int).toNat.toUInt8 := e
  rw [e2] at this
  simp at this
/-- Files behind k of them. -/
def DN (k : Nat) : List (ByteArray × List Int) := (List.range k).map fun j => (nm j, [])
theorem DN_len {k : Nat} : (DN k).length = k := by simp [DN]
theorem DN_succ {k : Nat} : DN (k + 1) = DN k ++ [(nm k, [])] := by simp [DN, List.range_succ]
theorem findD_none {x : ByteArray} : ∀ {D : List (ByteArray × List Int)}, (∀ d, d ∈ D → d.1 ≠ x) → findD x D = none
  | [], _ => rfl
  | d :: D, h => by
    unfold findD
    rw [if_neg (h d (by simp)), findD_none fun e he => h e (List.mem_cons_of_mem _ he)]; rfl
theorem DN_find {k i : Nat} (hk : k ≤ i) (hi : i < 100) : findD (nm i) (DN k) = none := findD_none fun d hd e => by
  obtain ⟨j, hj, rfl⟩ := List.mem_map.1 hd
  have hj := List.mem_range.1 hj
  have := nm_inj (show j < 100 by omega) hi e
  omega
theorem DN_put {k : Nat} (hk : k < 100) : putD (DN k) (nm k) [] = DN (k + 1) := by
  unfold putD
  rw [DN_find (Nat.le_refl _) hk, DN_succ]
theorem room_nm {k i : Nat} (hk : k ≤ i) (hi : i < 100) : roomZ (DN k) (nm i) ((([] : List Int).length : Nat) : Int) = if 32 ≤ k then 2 else 0 := by
  unfold roomZ
  rw [if_neg (by rw [nm_ok hi]; decide), if_neg (by simp), DN_len, DN_find hk hi]
  simp
/-- Files with Z at the first name. -/
def DZ (Z : List Int) : List (ByteArray × List Int) := (nm 0, Z) :: (List.range 31).map fun j => (nm (j + 1), [])
theorem DZ0 : DN 32 = DZ [] := by
  unfold DN DZ
  rw [show (32 : Nat) = 31 + 1 from rfl, List.range_succ_eq_map]
  simp [Function.comp_def]
theorem DZ_len {Z : List Int} : (DZ Z).length = 32 := by simp [DZ]
theorem DZ_find {Z : List Int} : findD (nm 0) (DZ Z) = some 0 := by unfold DZ findD; rw [if_pos rfl]
theorem DZ_put {Z Y : List Int} : putD (DZ Z) (nm 0) Y = DZ Y := by unfold putD; rw [DZ_find]; rfl
theorem DZ_get {Z : List Int} : bytE (DZ Z) (nm 0) = 0 ∧ bytL (DZ Z) (nm 0) = Z := by
  have hg : getD' (DZ Z) (nm 0) = some Z := by unfold getD'; rw [DZ_find]; rfl
  have hn := nm_ok (i := 0) (by decide)
  exact ⟨by unfold bytE; rw [if_neg (by rw [hn]; decide), hg], by unfold bytL; rw [if_neg (by rw [hn]; decide), hg]⟩
theorem DZ_room {Z : List Int} {n : Int} : roomZ (DZ Z) (nm 0) n = if 262144 < n then 2 else 0 := by
  unfold roomZ
  rw [if_neg (by rw [nm_ok (by decide)]; decide), DZ_find]
  simp
def zN : ByteArray := ⟨#[122, 122]⟩
theorem zN_eq : zN = strOfNums [122, 122] := by decide
def aN : ByteArray := ⟨#[97, 48]⟩
theorem a0_eq : aN = nm 0 := by decide
theorem DZ_none {Z : List Int} : bytE (DZ Z) zN = 3 := by
  have hn : nameB zN = true := by decide
  have hz : ∀ i, i < 100 → nm i ≠ zN := fun i hi e => by
    rw [zN_eq] at e
    have := (strEq (nmL_isB hi) (b := [122, 122]) (fun x hx => by simp at hx; unfold isB; omega)).1 (by unfold nm at e; rw [e])
    simp only [nmL, List.cons.injEq, and_true] at this
    omega
  have hf : findD zN (DZ Z) = none := findD_none fun d hd e => by
    simp only [DZ, List.mem_cons, List.mem_map, List.mem_range] at hd
    rcases hd with rfl | ⟨j, hj, rfl⟩
    · exact hz 0 (by decide) e
    · exact hz (j + 1) (by omega) e
  unfold bytE getD'
  rw [if_neg (by rw [hn]; decide), hf]; rfl
theorem DZ_nodup {Z : List Int} : ((DZ Z).map (·.1)).Nodup := by
  have e : (DZ Z).map (·.1) = (List.range 32).map nm := by
    rw [show (32 : Nat) = 31 + 1 from rfl, List.range_succ_eq_map]
    simp [DZ, Function.comp_def]
  rw [e]
  exact List.pairwise_map.2 (List.Pairwise.imp_of_mem (fun {a b} ha hb hne e => hne (nm_inj (by have := List.mem_range.1 ha; omega) (by have := List.mem_range.1 hb; omega) e)) List.nodup_range)
theorem zeros_dec {m : Nat} (hm : 0 < m) : DecAll (splitZ (trimZ (List.replicate m 0) 10) 10) [List.replicate m 0] := by
  have hno : (10 : Int) ∉ List.replicate m 0 := fun h => by have := (List.mem_replicate.1 h).2; omega
  have ht : trimZ (List.replicate m (0 : Int)) 10 = List.replicate m 0 := by
    unfold trimZ
    rw [if_neg]
    rw [ends_iff (by simpa using hm)]
    rw [decide_eq_false]
    · decide
    · rw [getD_at (by rw [List.length_replicate]; omega), List.getElem_replicate]; decide
  rw [ht, splitZ_none hno]
  have he : ∀ k : Nat, encL (List.replicate k 0) = List.replicate k 0 := fun k => by
    induction k with
    | zero => rfl
    | succ k ih => rw [List.replicate_succ]; simp only [encL, List.flatMap_cons] at ih ⊢; rw [ih]; rfl
  have hf : (List.replicate m (0 : Int)).map fixR = List.replicate m 0 := by rw [List.map_replicate, fix0]
  have := DecAll.enc (L := [List.replicate m 0])
  simp only [List.map_cons, List.map_nil, he, hf] at this
  exact this
theorem mkBytes {h : Heap} {n : Nat} (hn : n ≤ 1048576) : amakeSlice prog h 23 (.int .i64 n) (.int .i64 n) = some (.slice (some ⟨h.size, 0, none⟩) n (n + 1), h.new 5 (bI (List.replicate n 0))) := by
  obtain ⟨f1, f2, f3⟩ := fits5
  have e : (firstOf (n * 1) (#[Value.int .u8 0] : Array Value)).toList = bI (List.replicate n 0) := by
    refine List.ext_getElem? fun j => ?_
    simp [firstOf, bI, List.getElem?_replicate]
    by_cases hj : j < n
    · rw [List.getElem?_range hj, if_pos hj]; simp [Nat.mod_one]
    · rw [List.getElem?_eq_none (by simp; omega), if_neg hj]; rfl
  simp only [amakeSlice, underlying23, elem5, azero5, f2, f3]
  rw [if_pos ⟨by omega, by omega, by omega, by omega, by simp [Value.cells, one], rfl⟩]
  simp only [Value.cells, Int.toNat_natCast, e]
def clampN (n : Int) : Int := if 1 < (if 10 < n then 10 else n) then (if 10 < n then 10 else n) else 1
theorem clamp_bd {n : Int} : 1 ≤ clampN n ∧ clampN n ≤ 10 := by unfold clampN; (repeat' split) <;> omega
theorem bool_ne {a b : Bool} : abin prog .neq 4 (.bool a) (.bool b) = some (.bool (!(a == b))) := by simp [abin, aeq, underlying4]
theorem bne_tt : abin prog .neq 4 (.bool true) (.bool true) = some (.bool false) := by simp [abin, aeq, underlying4]
theorem bne_ff : abin prog .neq 4 (.bool false) (.bool false) = some (.bool false) := by simp [abin, aeq, underlying4]
theorem b82 {h : Heap} {x y : Int} : abuildSlice prog h 23 2 #[(0, .int .u8 x), (1, .int .u8 y)] = some (.slice (some ⟨h.size, 0, none⟩) 2 3, h.new 5 [.int .u8 x, .int .u8 y]) := build2 underlying23 asz5 azero5 rfl rfl rfl
theorem cv8 {h : Heap} {x : Int} : aconv prog h 3 5 (.int .i64 x) = some (.int .u8 (IntKind.u8.wrap x)) := by simp [aconv, underlying3, underlying5]
theorem quo10 {i : Nat} (hi : i < 1000) : abin prog .quo 3 (.int .i64 (i : Int)) (.int .i64 10) = some (.int .i64 ((i / 10 : Nat) : Int)) := by
  have e : ((i : Int)).tdiv 10 = ((i / 10 : Nat) : Int) := by rw [Int.tdiv_eq_ediv_of_nonneg (by omega)]; omega
  simp only [abin, aint, e]
  rw [if_pos trivial, if_neg (by decide), IntWalk.i64_in _ (by omega)]
theorem rem10 {i : Nat} (hi : i < 1000) : abin prog .rem 3 (.int .i64 (i : Int)) (.int .i64 10) = some (.int .i64 ((i % 10 : Nat) : Int)) := by
  have e : ((i : Int)).tmod 10 = ((i % 10 : Nat) : Int) := by rw [Int.tmod_eq_emod_of_nonneg (by omega)]; omega
  simp only [abin, aint, e]
  rw [if_pos trivial, if_neg (by decide)]
theorem DV.names {h : Heap} {b r : Nat} {fv : Value} {es : List (ByteArray × Value)} {D : List (ByteArray × List Int)} (V : DV h b r fv es D) : es.map (·.1) = D.map (·.1) := by
  refine List.ext_getElem? fun i => ?_
  rw [List.getElem?_map, List.getElem?_map]
  by_cases hi : i < es.length
  · have hi' : i < D.length := by have := V.1; omega
    rw [List.getElem?_eq_getElem hi, List.getElem?_eq_getElem hi']
    simp only [Option.map_some]
    rw [(V.2 i _ _ (List.getElem?_eq_getElem hi) (List.getElem?_eq_getElem hi')).1]
  · rw [List.getElem?_eq_none (by omega), List.getElem?_eq_none (by have := V.1; omega)]; rfl
theorem filesFull_law {h : Heap} {n : Int} : ACalls prog 7 #[.int .i64 n] h (fun y h' => y = .bool true ∧ Keeps h h') := by
  refine acalls_of_W' func7 rfl (by kernel_rfl) (by kernel_rfl) (by simp [ntmps7]) ?_
  intro H
  obtain ⟨N, hN⟩ : ∃ N : Nat, clampN n = (N : Int) := ⟨(clampN n).toNat, by have := (clamp_bd (n := n)).1; omega⟩
  have hNb := clamp_bd (n := n)
  rw [hN] at hNb
  have mn : abuiltin prog .min #[3, 3] #[.int .i64 n, .int .i64 10] = some (.int .i64 (if 10 < n then 10 else n)) := by simp [abuiltin, amm]
  have mx : abuiltin prog .max #[3, 3] #[.int .i64 1, .int .i64 (if 10 < n then 10 else n)] = some (.int .i64 (N : Int)) := by
    rw [← hN]; simp [abuiltin, amm, clampN]
  simp only [wk, wt, wl, ↓reduceIte, Nat.reduceEqDiff, Nat.reduceAdd, Nat.zero_add, not_false_eq_true, not_true_eq_false, mn, mx]
  refine new_ok.use ?_
  rintro _ h1 ⟨b, r, rfl, M1, K1, hb, hr⟩
  have S1 : SF h h1 b r (.slice none 0 0) [] [] [] := SF.begin (Keeps.refl H) K1 M1 hb hr
  have PN := fun {a : Addr} => ptr_some (P := prog) (a := a) underlying26
  have wN : IntKind.i64.wrap (32 + (N : Int)) = 32 + N := IntWalk.i64_in _ (by omega)
  simp only [wk, wt, wl, ↓reduceIte, Nat.reduceEqDiff, Nat.reduceAdd, Nat.zero_add, not_false_eq_true, not_true_eq_false, pt, PN]
  refine W_loop (fun tm h' => tm 0 = .int .i64 (N : Int) ∧ tm 3 = pt b ∧ ∃ (i : Nat) (es : List (ByteArray × Value)), tm 4 = .int .i64 i ∧ i ≤ 32 + N ∧ SF h h' b r (.slice none 0 0) [] es (DN (min i 32))) (fun tm _ => (32 + N - intOf (tm 4)).toNat)
    ⟨(by first | rfl | (simp only [wk, wt, wl, ↓reduceIte, Nat.reduceEqDiff, Nat.reduceAdd, Nat.zero_add, not_false_eq_true, not_true_eq_false]; done) | (simp only [wk, wt, wl, ↓reduceIte, Nat.reduceEqDiff, Nat.reduceAdd, Nat.zero_add, not_false_eq_true, not_true_eq_false]; rfl)), (by first | rfl | (simp only [wk, wt, wl, ↓reduceIte, Nat.reduceEqDiff, Nat.reduceAdd, Nat.zero_add, not_false_eq_true, not_true_eq_false]; done) | (simp only [wk, wt, wl, ↓reduceIte, Nat.reduceEqDiff, Nat.reduceAdd, Nat.zero_add, not_false_eq_true, not_true_eq_false]; rfl)), 0, [], (by first | rfl | (simp only [wk, wt, wl, ↓reduceIte, Nat.reduceEqDiff, Nat.reduceAdd, Nat.zero_add, not_false_eq_true, not_true_eq_false]; done) | (simp only [wk, wt, wl, ↓reduceIte, Nat.reduceEqDiff, Nat.reduceAdd, Nat.zero_add, not_false_eq_true, not_true_eq_false]; rfl)), by omega, S1⟩ ?_
  rintro tm h' ⟨t0, t3, i, es, t4, hi, S⟩
  simp only [wk, wt, wl, ↓reduceIte, Nat.reduceEqDiff, Nat.reduceAdd, Nat.zero_add, not_false_eq_true, not_true_eq_false, t0, t3, t4, wN]
  refine condK_dec (fun hd => ?_) (fun hd => ?_)
  · have hi1 : i < 32 + N := by omega
    have w1 : IntKind.i64.wrap (97 + ((i / 10 : Nat) : Int)) = 97 + ((i / 10 : Nat) : Int) := IntWalk.i64_in _ (by omega)
    have w2 : IntKind.i64.wrap (48 + ((i % 10 : Nat) : Int)) = 48 + ((i % 10 : Nat) : Int) := IntWalk.i64_in _ (by omega)
    have u1 : IntKind.u8.wrap (97 + ((i / 10 : Nat) : Int)) = 97 + ((i / 10 : Nat) : Int) := IntWalk.u8_in _ (by omega)
    have u2 : IntKind.u8.wrap (48 + ((i % 10 : Nat) : Int)) = 48 + ((i % 10 : Nat) : Int) := IntWalk.u8_in _ (by omega)
    have N2 := Keeps.new S.wf 5 [.int .u8 (97 + ((i / 10 : Nat) : Int)), .int .u8 (48 + ((i % 10 : Nat) : Int))]
    have R2 : RdI prog (h'.new 5 [.int .u8 (97 + ((i / 10 : Nat) : Int)), .int .u8 (48 + ((i % 10 : Nat) : Int))]) .u8 (.slice (some ⟨h'.size, 0, none⟩) 2 3) (nmL i) := rdNewB S.wf (nmL i)
    have S2 := S.keeps N2
    have hs : strOfNums (nmL i) = nm i := rfl
    simp only [wk, wt, wl, ↓reduceIte, Nat.reduceEqDiff, Nat.reduceAdd, Nat.zero_add, not_false_eq_true, not_true_eq_false, t0, t3, t4, quo10 (i := i) (by omega), rem10 (i := i) (by omega), w1, w2, cv8, u1, u2, b82, conv_str R2]
    refine (S2.put_ok (s := nm i) (l := []) Rd.nil0 (fun y hy => by simp at hy)).use ?_
    rintro _ h3 ⟨rfl, es3, S3, _⟩
    rw [room_nm (by omega) (by omega)]
    have d00 : decide ((0 : Int) = 0) = true := rfl
    have d30 : decide ((3 : Int) = 0) = false := rfl
    have dn00 : decide (¬ (0 : Int) = 0) = false := rfl
    have dn30 : decide (¬ (3 : Int) = 0) = true := rfl
    have dn33 : decide (¬ (3 : Int) = 3) = false := rfl
    by_cases c : (i : Int) < 32
    · have em : min i 32 = i := by omega
      rw [em] at S3 ⊢
      rw [if_neg (by omega)]
      have ep : putZ (DN i) (nm i) [] = DN (min (i + 1) 32) := by
        have hz : roomZ (DN i) (nm i) ((([] : List Int).length : Nat) : Int) = 0 := by rw [room_nm (Nat.le_refl _) (by omega)]; exact if_neg (by omega)
        unfold putZ
        rw [if_pos hz, DN_put (by omega)]
        congr 1; omega
      rw [ep] at S3
      have n0 : numZ 0 = 0 := rfl
      simp only [wk, wt, wl, ↓reduceIte, Nat.reduceEqDiff, Nat.reduceAdd, Nat.zero_add, not_false_eq_true, not_true_eq_false, t3, t4, n0, d00, dn00, decide_eq_true c, bne_tt]
      simp (disch := omega) only [wk, wt, wl, ↓reduceIte, Nat.reduceEqDiff, Nat.reduceAdd, Nat.zero_add, not_false_eq_true, not_true_eq_false, t0, t3, t4, IntWalk.i64_in, intOf_int]
      all_goals exact ⟨⟨i + 1, es3, by simp, by omega, S3⟩, by omega⟩
    · have em : min i 32 = 32 := by omega
      rw [em] at S3 ⊢
      rw [if_pos (by omega)]
      have ep : putZ (DN 32) (nm i) [] = DN (min (i + 1) 32) := by
        have hz : roomZ (DN 32) (nm i) ((([] : List Int).length : Nat) : Int) = 2 := by rw [room_nm (by omega) (by omega)]; exact if_pos (by omega)
        unfold putZ
        rw [if_neg (by rw [hz]; decide)]
        congr 1; omega
      rw [ep] at S3
      have n2 : numZ 2 = 3 := rfl
      simp only [wk, wt, wl, ↓reduceIte, Nat.reduceEqDiff, Nat.reduceAdd, Nat.zero_add, not_false_eq_true, not_true_eq_false, t3, t4, n2, d30, dn30, dn33, decide_eq_false c, bne_ff]
      simp (disch := omega) only [wk, wt, wl, ↓reduceIte, Nat.reduceEqDiff, Nat.reduceAdd, Nat.zero_add, not_false_eq_true, not_true_eq_false, t0, t3, t4, IntWalk.i64_in, intOf_int]
      all_goals exact ⟨⟨i + 1, es3, by simp, by omega, S3⟩, by omega⟩
  · have hie : min i 32 = 32 := by omega
    rw [hie, DZ0] at S
    have hw := S.wf
    obtain ⟨Z, hZ⟩ : ∃ Z : List Int, Z = List.replicate 262144 0 := ⟨_, rfl⟩
    obtain ⟨Y, hY⟩ : ∃ Y : List Int, Y = List.replicate (262144 + N) 0 := ⟨_, rfl⟩
    have hZl : Z.length = 262144 := by rw [hZ, List.length_replicate]
    have hYl : Y.length = 262144 + N := by rw [hY, List.length_replicate]
    have hZB : ∀ y, y ∈ Z → isB y := fun y hy => by rw [hZ] at hy; have := (List.mem_replicate.1 hy).2; subst this; exact ⟨by decide, by decide⟩
    have hYB : ∀ y, y ∈ Y → isB y := fun y hy => by rw [hY] at hy; have := (List.mem_replicate.1 hy).2; subst this; exact ⟨by decide, by decide⟩
    have mk1 : ∀ hh : Heap, amakeSlice prog hh 23 (.int .i64 262144) (.int .i64 262144) = some (.slice (some ⟨hh.size, 0, none⟩) 262144 262145, hh.new 5 (bI Z)) := fun hh => by rw [hZ]; exact mkBytes (n := 262144) (by decide)
    have mk2 : ∀ hh : Heap, amakeSlice prog hh 23 (.int .i64 (262144 + (N : Int))) (.int .i64 (262144 + (N : Int))) = some (.slice (some ⟨hh.size, 0, none⟩) (262144 + N) (262144 + N + 1), hh.new 5 (bI Y)) := fun hh => by
      rw [hY, show 262144 + (N : Int) = ((262144 + N : Nat) : Int) by omega]; exact mkBytes (n := 262144 + N) (by omega)
    have N2 := Keeps.new hw 5 (bI Z)
    have R2 := rdNewB hw Z
    rw [hZl] at R2
    simp only [wk, wt, wl, ↓reduceIte, Nat.reduceEqDiff, Nat.reduceAdd, Nat.zero_add, not_false_eq_true, not_true_eq_false, t3, mk1]
    refine ((S.keeps N2).put_ok (s := aN) (l := Z) R2 hZB).use ?_
    rintro _ h3 ⟨rfl, es3, S3, _⟩
    rw [a0_eq] at S3 ⊢
    have hr1 : roomZ (DZ []) (nm 0) (Z.length : Int) = 0 := by rw [DZ_room, if_neg (by omega)]
    have ep1 : putZ (DZ []) (nm 0) Z = DZ Z := by unfold putZ; rw [if_pos hr1, DZ_put]
    rw [ep1] at S3
    rw [hr1]
    have w3 : IntKind.i64.wrap (262144 + (N : Int)) = 262144 + (N : Int) := IntWalk.i64_in _ (by omega)
    have N4 := Keeps.new S3.wf 5 (bI Y)
    have R4 := rdNewB S3.wf Y
    rw [hYl] at R4
    simp only [wk, wt, wl, ↓reduceIte, Nat.reduceEqDiff, Nat.reduceAdd, Nat.zero_add, not_false_eq_true, not_true_eq_false, t0, t3, w3, mk2]
    refine ((S3.keeps N4).put_ok (s := aN) (l := Y) R4 hYB).use ?_
    rintro _ h5 ⟨rfl, es5, S5, _⟩
    rw [a0_eq] at S5 ⊢
    have hr2 : roomZ (DZ Z) (nm 0) (Y.length : Int) = 2 := by rw [DZ_room, if_pos (by omega)]
    have ep2 : putZ (DZ Z) (nm 0) Y = DZ Z := by unfold putZ; rw [if_neg (by rw [hr2]; decide)]
    rw [ep2] at S5
    rw [hr2]
    simp only [wk, wt, wl, ↓reduceIte, Nat.reduceEqDiff, Nat.reduceAdd, Nat.zero_add, not_false_eq_true, not_true_eq_false, t3]
    refine (read_ok (s := aN) S5.m S5.d).use ?_
    rintro _ h6 ⟨K6, hread⟩
    rw [a0_eq, DZ_get.1, DZ_get.2, hZ] at hread
    obtain ⟨he, _⟩ | ⟨_, Wd, hd6, hcase⟩ := hread
    · exact absurd rfl he
    have hWd := hd6.det (zeros_dec (m := 262144) (by decide))
    have hsum : (sumL Wd : Int) - 1 = 262144 := by
      rw [hWd]
      simp only [sumL, List.map_cons, List.map_nil, List.sum_cons, List.sum_nil, List.length_replicate]
      decide
    obtain ⟨_, rfl⟩ | ⟨hno, _⟩ := hcase
    rotate_left
    · exact absurd (show (65536 : Int) < (sumL Wd : Int) - 1 by rw [hsum]; decide) hno
    have S6 := S5.keeps K6
    simp only [wk, wt, wl, ↓reduceIte, Nat.reduceEqDiff, Nat.reduceAdd, Nat.zero_add, not_false_eq_true, not_true_eq_false, t3]
    refine (read_ok (s := zN) S6.m S6.d).use ?_
    rintro _ h7 ⟨K7, ⟨_, rfl⟩ | ⟨he, _⟩⟩
    rotate_left
    · rw [DZ_none] at he; exact absurd he (by decide)
    rw [DZ_none]
    have S7 := S6.keeps K7
    have hnames := S7.d.names
    have hel : es5.length = 32 := by
      have := congrArg List.length hnames
      simpa [DZ_len] using this
    simp only [wk, wt, wl, ↓reduceIte, Nat.reduceEqDiff, Nat.reduceAdd, Nat.zero_add, not_false_eq_true, not_true_eq_false, t3]
    refine (names_ok S7.m (by rw [hnames]; exact DZ_nodup) (fun e he => ?_) (by omega)).use ?_
    · have : e.1 ∈ (DZ Z).map (·.1) := by rw [← hnames]; exact List.mem_map.2 ⟨e, he, rfl⟩
      obtain ⟨d, hd, e2⟩ := List.mem_map.1 this
      rw [← e2]
      simp only [DZ, List.mem_cons, List.mem_map, List.mem_range] at hd
      rcases hd with rfl | ⟨j, hj, rfl⟩
      · rw [nm_size]; decide
      · rw [nm_size]; decide
    rintro yv h8 ⟨ts, hts, R8, _, K8⟩
    have htl : ts.length = 32 := by
      have := hts.length_eq
      rw [List.length_map] at this; omega
    have LY : abuiltin prog .len #[37] #[yv] = some (.int .i64 32) := by
      have := Rd.len R8 underlying37
      rw [htl] at this; exact this
    have d32 : decide ((32 : Int) = 32) = true := rfl
    have d00 : decide ((0 : Int) = 0) = true := rfl
    have d33 : decide ((3 : Int) = 3) = true := rfl
    have d27 : decide ((27 : Int) = 27) = true := rfl
    simp only [wk, wt, wl, ↓reduceIte, Nat.reduceEqDiff, Nat.reduceAdd, Nat.zero_add, not_false_eq_true, not_true_eq_false, LY, d32, show numZ 0 = 0 from rfl, show numZ 2 = 3 from rfl, show numZ 3 = 27 from rfl, d00, d33, d27]
    refine awake_ok.use ?_
    rintro _ h9 ⟨rfl, K9⟩
    simp only [wk, wt, wl, ↓reduceIte, Nat.reduceEqDiff, Nat.reduceAdd, Nat.zero_add, not_false_eq_true, not_true_eq_false]
    all_goals exact (S7.k.trans K8).trans K9
end Go.Proofs.YtiebaefhlacekaaDoor.Am
end
