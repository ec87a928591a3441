/- Patterns: how large one is, how many groups it has; the program and the document, by walks. -/
import Derived.Test.YtnnkcbkenofhmaaKj
set_option linter.unusedSimpArgs false
set_option linter.unusedVariables false
set_option maxHeartbeats 4000000
set_option maxRecDepth 20000
namespace Go.Proofs.Ytnnkcbkenofhmaa.Am
open Go Go.RowKit Go.Proofs.Try
mutual
/-- Repetitions' counts are small. -/
def PatOk : Pat → Prop
  | .mk k _ s _ lo hi ps => (k = 10 → lo ≤ 100 ∧ hi ≤ 100) ∧ (ps.length ≤ 10000001 ∧ s.length ≤ 10000001) ∧ PatsOk ps
def PatsOk : List Pat → Prop
  | [] => True
  | p :: ps => PatOk p ∧ PatsOk ps
end
theorem PatsOk.snoc : ∀ {ps : List Pat} {p : Pat}, PatsOk ps → PatOk p → PatsOk (ps ++ [p])
  | [], p, _, h => ⟨h, trivial⟩
  | q :: ps, p, h, hp => by
    simp only [PatsOk] at h
    exact ⟨h.1, PatsOk.snoc h.2 hp⟩
theorem patOk_leaf {k r lo hi : Int} {s : List (Int × Int)} {nt : Bool} (h : k ≠ 10) (hs : s.length ≤ 10000001 := by decide) : PatOk (.mk k r s nt lo hi []) := ⟨fun e => absurd e h, ⟨by simp, hs⟩, trivial⟩
theorem spansM_len : ∀ (n : Nat) {acc s : List (Int × Int)} {l : List Int}, spansM n acc l = .ok s → s.length ≤ acc.length + l.length
  | 0, acc, s, l, h => by cases h
  | n + 1, acc, s, l, h => by
    unfold spansM at h
    split at h
    · cases h; simp
    · split at h
      · cases h
      · have := spansM_len n h; simp at this ⊢; omega
    · have := spansM_len n h; simp at this ⊢; omega
theorem timesM_ok {l t : List Int} {a b : Int} (h : timesM l = .ok (a, b, t)) : a ≤ 100 ∧ b ≤ 100 := by
  unfold timesM at h
  split at h
  · cases h
  · split at h
    · cases h
    · rename_i c
      unfold endM at h
      split at h
      · cases h
        have M := kmax_spec (digM 0 false l).1 (hiM (digM 0 false l).1 (digM 0 false l).2.1).1
        have : ¬ 100 < kmax (digM 0 false l).1 (hiM (digM 0 false l).1 (digM 0 false l).2.1).1 := fun e => c (.inl e)
        omega
      · cases h
theorem repM_ok {l t : List Int} {p q : Pat} (P : PatOk p) (h : repM p l = .ok (some (q, t))) : PatOk q := by
  unfold repM at h
  obtain ⟨x, y, n, hp⟩ : ∃ x y n, peekM l = (x, y, n) := ⟨_, _, _, rfl⟩
  rw [hp] at h
  simp only at h
  split at h
  · cases h; exact ⟨fun _ => by omega, by simp, P, trivial⟩
  · split at h
    · cases h
    · split at h
      · cases h
      · rename_i lo hi u hu
        cases h
        exact ⟨fun _ => timesM_ok hu, by simp, P, trivial⟩
theorem repsM_ok : ∀ (n : Nat) {p q : Pat} {l t : List Int}, PatOk p → repsM n p l = .ok (q, t) → PatOk q
  | 0, p, q, l, t, _, h => by cases h
  | n + 1, p, q, l, t, P, h => by
    simp only [repsM] at h
    split at h
    · cases h; exact P
    · split at h
      · cases h
      · cases h; exact P
      · rename_i a b c
        exact repsM_ok n (repM_ok P c) h
def GP1 (grp : List Int → Int → PRes) : Prop := ∀ l g p t g', l.length ≤ 10000000 → grp l g = .ok (p, t, g') → PatOk p
theorem escM_ok {grp : List Int → Int → PRes} (G : GP1 grp) {y : Int} {l t : List Int} {g g' : Int} {p : Pat} (hl : l.length ≤ 10000000) (h : escM grp y l g = .ok (p, t, g')) : PatOk p := by
  unfold escM at h
  split at h
  · cases h
  · split at h
    · cases h
    · split at h
      · cases h; exact patOk_leaf (by decide)
      · split at h
        · cases h; exact patOk_leaf (by decide)
        · split at h
          · exact G _ _ _ _ _ (by rw [List.length_drop]; omega) h
          · cases h; exact patOk_leaf (by decide)
theorem setM_ok {l t : List Int} {p : Pat} (hl : l.length ≤ 10000000) (h : setM l = .ok (p, t)) : PatOk p := by
  unfold setM at h
  simp only at h
  split at h
  · cases h
  · split at h
    · cases h
    · rename_i s hs
      cases h
      have := spansM_len _ hs
      refine patOk_leaf (by decide) (Nat.le_trans this ?_)
      simp only [List.length_nil, List.length_take]
      have ht : (if decide (l.head? = some 94) = true then l.tail else l).length ≤ l.length := by
        split
        · rw [List.length_tail]; omega
        · exact Nat.le_refl _
      omega
theorem atomM_ok {grp : List Int → Int → PRes} (G : GP1 grp) {first : Bool} {l t : List Int} {g g' : Int} {p : Pat} (hl : l.length ≤ 10000000) (h : atomM grp first l g = .ok (p, t, g')) : PatOk p := by
  unfold atomM at h
  obtain ⟨x, y, n, hp⟩ : ∃ x y n, peekM l = (x, y, n) := ⟨_, _, _, rfl⟩
  rw [hp] at h
  simp only at h
  split at h
  · split at h
    · cases h
    · rename_i q u hs
      cases h
      exact setM_ok (by rw [List.length_drop]; omega) hs
  · split at h
    · exact escM_ok G hl h
    · split at h
      · cases h
      · split at h
        · cases h; exact patOk_leaf (by decide)
        · split at h
          · cases h; exact patOk_leaf (by decide)
          · split at h
            · cases h; exact patOk_leaf (by decide)
            · cases h; exact patOk_leaf (by decide)
theorem pCat_ok : ∀ {l : List Pat}, PatsOk l → l.length ≤ 10000001 → PatOk (pCat l)
  | [], _, _ => patOk_leaf (by decide)
  | [x], h, _ => h.1
  | x :: y :: l, h, hl => ⟨(fun e => by simp at e), ⟨hl, by simp⟩, h⟩
theorem pAlt_ok : ∀ {l : List Pat}, PatsOk l → l.length ≤ 10000001 → PatOk (pAlt l)
  | [], _, _ => patOk_leaf (by decide)
  | [x], h, _ => h.1
  | x :: y :: l, h, hl => ⟨(fun e => by simp at e), ⟨hl, by simp⟩, h⟩
theorem pieM_ok {grp : List Int → Int → PRes} (G : GP1 grp) (L : GL grp) : ∀ (n : Nat) {acc : List Pat} {l t : List Int} {g g' : Int} {p : Pat}, PatsOk acc → acc.length + l.length ≤ 10000000 → pieM grp n acc l g = .ok (p, t, g') → PatOk p
  | 0, acc, l, t, g, g', p, _, _, h => by cases h
  | n + 1, acc, l, t, g, g', p, A, hl, h => by
    simp only [pieM] at h
    split at h
    · cases h; exact pCat_ok A (by omega)
    · rename_i he
      split at h
      · cases h
      · rename_i q u g1 ha
        have h1 := atomM_len L (ended_ne (by simpa using he)) ha
        split at h
        · cases h
        · rename_i q2 u2 hr
          have h2 := repsM_len _ hr
          exact pieM_ok G L n (A.snoc (repsM_ok _ (atomM_ok G (by omega) ha) hr)) (by simp; omega) h
theorem altsM_ok {grp : List Int → Int → PRes} (G : GP1 grp) (L : GL grp) : ∀ (n : Nat) {acc : List Pat} {l t : List Int} {g g' : Int} {p : Pat}, PatsOk acc → acc.length + l.length ≤ 10000001 → altsM grp n acc l g = .ok (p, t, g') → PatOk p
  | 0, acc, l, t, g, g', p, _, _, h => by cases h
  | n + 1, acc, l, t, g, g', p, A, hl, h => by
    simp only [altsM] at h
    split at h
    · rename_i hb
      have hb2 := bar_lt hb
      have hd : (l.drop 2).length = l.length - 2 := List.length_drop
      split at h
      · cases h
      · rename_i q u g1 hp
        have h1 := pieM_len L _ hp
        exact altsM_ok G L n (A.snoc (pieM_ok G L _ (show PatsOk [] from trivial) (by simp; omega) hp)) (by simp; omega) h
    · cases h; exact pAlt_ok A (by omega)
theorem altM_ok {grp : List Int → Int → PRes} (G : GP1 grp) (L : GL grp) {l t : List Int} {g g' : Int} {p : Pat} (hl : l.length ≤ 10000000) (h : altM grp l g = .ok (p, t, g')) : PatOk p := by
  unfold altM at h
  split at h
  · cases h
  · rename_i q u g1 hp
    have h1 := pieM_len L _ hp
    exact altsM_ok G L _ (show PatsOk [q] from ⟨pieM_ok G L _ (show PatsOk [] from trivial) (by simp; omega) hp, trivial⟩) (by simp; omega) h
theorem grpM_ok : ∀ k, GP1 (grpM k)
  | 0 => fun l g p t g' _ h => by cases h
  | k + 1 => fun l g p t g' hl h => by
    simp only [grpM] at h
    split at h
    · cases h
    · rename_i q u g1 ha
      split at h
      · cases h
      · cases h
        exact ⟨(fun e => by simp at e), by simp, altM_ok (grpM_ok k) (grpM_GL k) hl ha, trivial⟩
/-- A part's weight among the others. -/
def wgt (k lo hi : Int) (p : Pat) : Int := if k = 10 then sizeM p * kmax (kmax 1 lo) hi else sizeM p
mutual
theorem size_pos : ∀ (p : Pat), PatOk p → 1 ≤ sizeM p ∧ sizeM p ≤ 401
  | .mk k r s nt lo hi ps, h => by
    simp only [sizeM]
    simp only [PatOk] at h
    exact sizes_pos k lo hi h.1 ps h.2.2 1 (by omega) (by omega)
theorem sizes_pos (k lo hi : Int) (hk : k = 10 → lo ≤ 100 ∧ hi ≤ 100) : ∀ (ps : List Pat), PatsOk ps → ∀ n : Int, 1 ≤ n → n ≤ 401 → 1 ≤ sizesM k lo hi n ps ∧ sizesM k lo hi n ps ≤ 401
  | [], _, n, h1, h2 => by simp only [sizesM]; omega
  | p :: ps, h, n, h1, h2 => by
    simp only [sizesM]
    simp only [PatsOk] at h
    have hp := size_pos p h.1
    have hw : 1 ≤ (if k = 10 then sizeM p * kmax (kmax 1 lo) hi else sizeM p) := by
      split
      · rename_i e
        have := hk e
        have M1 := kmax_spec 1 lo
        have M2 := kmax_spec (kmax 1 lo) hi
        have : 1 * 1 ≤ sizeM p * kmax (kmax 1 lo) hi := Int.mul_le_mul (by omega) (by omega) (by omega) (by omega)
        omega
      · omega
    have M3 := kmin_spec (n + (if k = 10 then sizeM p * kmax (kmax 1 lo) hi else sizeM p)) 401
    exact sizes_pos k lo hi hk ps h.2 _ (by omega) (by omega)
end
theorem wgt_pos {k lo hi : Int} {p : Pat} (hk : k = 10 → lo ≤ 100 ∧ hi ≤ 100) (h : PatOk p) : 1 ≤ wgt k lo hi p ∧ wgt k lo hi p ≤ 40100 := by
  have hp := size_pos p h
  unfold wgt
  split
  · rename_i e
    have := hk e
    have M1 := kmax_spec 1 lo
    have M2 := kmax_spec (kmax 1 lo) hi
    have h1 : 1 * 1 ≤ sizeM p * kmax (kmax 1 lo) hi := Int.mul_le_mul (by omega) (by omega) (by omega) (by omega)
    have h2 : sizeM p * kmax (kmax 1 lo) hi ≤ 401 * 100 := Int.mul_le_mul (by omega) (by omega) (by omega) (by omega)
    omega
  · omega
theorem sizes_top (k lo hi : Int) (hk : k = 10 → lo ≤ 100 ∧ hi ≤ 100) : ∀ (ps : List Pat), PatsOk ps → sizesM k lo hi 401 ps = 401
  | [], _ => rfl
  | p :: ps, h => by
    simp only [sizesM]
    simp only [PatsOk] at h
    have := wgt_pos hk h.1
    unfold wgt at this
    have M3 := kmin_spec (401 + (if k = 10 then sizeM p * kmax (kmax 1 lo) hi else sizeM p)) 401
    rw [show kmin (401 + (if k = 10 then sizeM p * kmax (kmax 1 lo) hi else sizeM p)) 401 = 401 by omega]
    exact sizes_top k lo hi hk ps h.2
theorem PatsOk.at : ∀ {ps : List Pat} {i : Nat} {p : Pat}, PatsOk ps → ps[i]? = some p → PatOk p
  | [], i, p, _, e => by simp at e
  | q :: ps, 0, p, h, e => by simp at e; subst e; exact h.1
  | q :: ps, i + 1, p, h, e => by simp at e; exact PatsOk.at h.2 e
theorem PatsOk.drop : ∀ {ps : List Pat} {i : Nat}, PatsOk ps → PatsOk (ps.drop i)
  | [], i, h => by simp; trivial
  | q :: ps, 0, h => h
  | q :: ps, i + 1, h => by simpa using PatsOk.drop h.2
theorem pat_lt {k r lo hi : Int} {s : List (Int × Int)} {nt : Bool} {ps : List Pat} {i : Nat} {p : Pat} (h : ps[i]? = some p) : SizeOf.sizeOf p < SizeOf.sizeOf (Pat.mk k r s nt lo hi ps) := by
  have h1 := List.sizeOf_lt_of_mem (List.mem_of_getElem? h)
  simp only [Pat.mk.sizeOf_spec]
  omega
def boxV (P : Program) (h : Heap) (e : TypeId) (v : Value) : Option (Value × Heap) := match asz P e with | some _ => if v.cells.all one = true then some (.pointer (some ⟨h.size, 0, none⟩), h.new e v.cells.toList) else none | none => none
theorem aeff_box {P : Program} {h : Heap} {tm : Tm} {e : TypeId} {x : Operand} : aeff P tm h (.box e x) = boxV P h e (ev tm x) := rfl
theorem boxRe {h : Heap} {c : RC} (h1 : one c.sv = true) (h2 : one c.pv = true) : boxV prog h 26 (reV c) = some (.pointer (some ⟨h.size, 0, none⟩), h.new 26 (reC c)) := by
  unfold boxV
  rw [asz26]
  simp only [reV_one h1 h2, if_true, reV_cellsL]
/-- The program's reckoning. -/
theorem size_all : ∀ (m : Nat) (p : Pat) (c : RC) (h : Heap) (D : Nat → Prop), SizeOf.sizeOf p < m → PatOk p → ReR h D p c → ACalls prog 21 #[reV c] h (fun y h' => y = .int .i64 (sizeM p) ∧ Keeps h h')
  | 0, p, c, h, D, hm, _, _ => by omega
  | m + 1, p, c, h, D, hm, hok, P => by
    refine acalls_of_W' func21 rfl (by kernel_rfl) (by kernel_rfl) (by simp [ntmps21]) ?_
    intro H
    obtain ⟨k, r, set, nt, lo, hi, ps⟩ := p
    have P0 := P
    simp only [ReR] at P
    obtain ⟨p1, p2, p3, p4, p5, p6, p7, p8, l, PS, PR⟩ := P
    have N1 := Keeps.new H 26 (reC c)
    have V1 := Var.new (e := 26) H (cs := reC c)
    have hll := PR.len
    have LK : ∀ {hh : Heap}, Var hh h.size (reC c) → aload prog hh 3 ⟨h.size, 0, none⟩ = some (.int .i64 k) := fun V => by rw [← p1]; exact V.load1 (P := prog) (t := 3) underlying3 rfl (i := 0)
    have LLO : ∀ {hh : Heap}, Var hh h.size (reC c) → aload prog hh 3 ⟨h.size, 4, none⟩ = some (.int .i64 lo) := fun V => by rw [← p4]; exact V.load1 (P := prog) (t := 3) underlying3 rfl (i := 4)
    have LHI : ∀ {hh : Heap}, Var hh h.size (reC c) → aload prog hh 3 ⟨h.size, 5, none⟩ = some (.int .i64 hi) := fun V => by rw [← p5]; exact V.load1 (P := prog) (t := 3) underlying3 rfl (i := 5)
    have LPV : ∀ {hh : Heap}, Var hh h.size (reC c) → aload prog hh 24 ⟨h.size, 6, none⟩ = some c.pv := fun V => V.load1 (P := prog) (t := 24) underlying24 rfl (i := 6)
    have LNP := RS.len (RS.keeps PS N1) underlying24
    simp only [PatOk] at hok
    simp only [wk, wt, wl, ↓reduceIte, Nat.reduceEqDiff, Nat.reduceAdd, Nat.zero_add, not_false_eq_true, not_true_eq_false, pt, aeff_box, boxRe P0.one1.1 P0.one1.2, LPV V1, LNP]
    refine W_loop (fun tm hh => Keeps (h.new 26 (reC c)) hh ∧ tm 1 = pt h.size ∧ tm 8 = c.pv ∧ tm 9 = .int .i64 (l.length : Int) ∧ ∃ (i : Nat) (n : Int), tm 10 = .int .i64 (i : Int) ∧ tm 3 = .int .i64 n ∧ i ≤ l.length ∧ (i : Int) + 1 ≤ n ∧ n ≤ 400 ∧ sizesM k lo hi n (ps.drop i) = sizesM k lo hi 1 ps)
      (fun tm _ => (l.length - intOf (tm 10)).toNat) ⟨Keeps.refl (Ch.wf N1), (by first | rfl | (simp only [wk, wt, wl, ↓reduceIte, Nat.reduceEqDiff, Nat.reduceAdd, Nat.zero_add, not_false_eq_true, not_true_eq_false]; done) | (simp only [wk, wt, wl, ↓reduceIte, Nat.reduceEqDiff, Nat.reduceAdd, Nat.zero_add, not_false_eq_true, not_true_eq_false]; rfl) | (simp only [wk, wt, wl, ↓reduceIte, Nat.reduceEqDiff, Nat.reduceAdd, Nat.zero_add, not_false_eq_true, not_true_eq_false, pt]; done) | (simp only [wk, wt, wl, ↓reduceIte, Nat.reduceEqDiff, Nat.reduceAdd, Nat.zero_add, not_false_eq_true, not_true_eq_false, pt]; rfl)), (by first | rfl | (simp only [wk, wt, wl, ↓reduceIte, Nat.reduceEqDiff, Nat.reduceAdd, Nat.zero_add, not_false_eq_true, not_true_eq_false]; done) | (simp only [wk, wt, wl, ↓reduceIte, Nat.reduceEqDiff, Nat.reduceAdd, Nat.zero_add, not_false_eq_true, not_true_eq_false]; rfl)), (by first | rfl | (simp only [wk, wt, wl, ↓reduceIte, Nat.reduceEqDiff, Nat.reduceAdd, Nat.zero_add, not_false_eq_true, not_true_eq_false]; done) | (simp only [wk, wt, wl, ↓reduceIte, Nat.reduceEqDiff, Nat.reduceAdd, Nat.zero_add, not_false_eq_true, not_true_eq_false]; rfl)), 0, 1, (by first | rfl | (simp only [wk, wt, wl, ↓reduceIte, Nat.reduceEqDiff, Nat.reduceAdd, Nat.zero_add, not_false_eq_true, not_true_eq_false]; done) | (simp only [wk, wt, wl, ↓reduceIte, Nat.reduceEqDiff, Nat.reduceAdd, Nat.zero_add, not_false_eq_true, not_true_eq_false]; rfl)), (by first | rfl | (simp only [wk, wt, wl, ↓reduceIte, Nat.reduceEqDiff, Nat.reduceAdd, Nat.zero_add, not_false_eq_true, not_true_eq_false]; done) | (simp only [wk, wt, wl, ↓reduceIte, Nat.reduceEqDiff, Nat.reduceAdd, Nat.zero_add, not_false_eq_true, not_true_eq_false]; rfl)), by omega, by omega, by omega, rfl⟩ ?_
    rintro tm hh ⟨K, t1, t8, t9, i, n, t10, t3, hi1, hin, hn4, hR⟩
    simp only [wk, wt, wl, ↓reduceIte, Nat.reduceEqDiff, Nat.reduceAdd, Nat.zero_add, not_false_eq_true, not_true_eq_false, t1, t8, t9, t10, t3]
    refine condK_dec (fun hd => ?_) (fun hd => ?_)
    · have hi2 : i < l.length := by omega
      obtain ⟨p', hp'⟩ : ∃ p', ps[i]? = some p' := ⟨_, List.getElem?_eq_getElem (by omega)⟩
      have PRh := RePs.ch (N1.trans K) (fun _ e => e.elim) ps l PR
      have PSh : RS prog hh 7 reC c.pv l := RS.keeps PS (N1.trans K)
      obtain ⟨c', hc', Q⟩ := PRh.at hp'
      have IX := Rd.index PSh underlying24 asz26 (q := .i64) (i := (i : Int)) (by omega) (by omega)
      rw [Int.toNat_natCast] at IX
      have LX : aload prog hh 26 (eltA c.pv 7 i) = some (reV c') := RS.agg PSh reC_len underlying26 rfl asz26 hc'
      have Vh := Keeps.var (Ch.wf N1) K V1
      have hdr : ps.drop i = p' :: ps.drop (i + 1) := dropAt hp'
      have hok' := hok.2.2.at hp'
      have hsz' := size_pos p' hok'
      have N2 := Keeps.new (Ch.wf K) 26 (reC rc0)
      obtain ⟨h3, e3, V3, C3, z3⟩ := (Var.new (e := 26) (Ch.wf K) (cs := reC rc0)).put (Ch.wf N2) (d := c') Q.one1.1 Q.one1.2
      have K3 : Keeps hh h3 := N2.step C3 fun b e => by omega
      have Q3 := ReR.ch K3 (fun _ e => e.elim) _ _ Q
      have wi : IntKind.i64.wrap ((i : Int) + 1) = ((i + 1 : Nat) : Int) := by rw [IntWalk.i64_in _ (by omega)]; omega
      rw [hdr] at hR
      simp only [sizesM] at hR
      have hw := wgt_pos hok.1 hok'
      simp only [wk, wt, wl, ↓reduceIte, Nat.reduceEqDiff, Nat.reduceAdd, Nat.zero_add, not_false_eq_true, not_true_eq_false, pt, t1, t8, t9, t10, t3, newRe, newSz, IX, LX, e3, V3.re]
      refine (size_all m p' c' h3 D (by have := pat_lt (k := k) (r := r) (s := set) (nt := nt) (lo := lo) (hi := hi) hp'; omega) hok' Q3).use ?_
      rintro _ h4 ⟨rfl, K4⟩
      have V4 := Keeps.var (Ch.wf N1) ((K.trans K3).trans K4) V1
      have K04 := (K.trans K3).trans K4
      by_cases ck : k = 10
      · have d1 := decide_eq_true ck
        have hww : wgt k lo hi p' = sizeM p' * kmax (kmax 1 lo) hi := by unfold wgt; rw [if_pos ck]
        rw [hww] at hw
        rw [if_pos ck] at hR
        have w1 : IntKind.i64.wrap (sizeM p' * kmax (kmax 1 lo) hi) = sizeM p' * kmax (kmax 1 lo) hi := IntWalk.i64_in _ (by omega)
        have w2 : IntKind.i64.wrap (n + sizeM p' * kmax (kmax 1 lo) hi) = n + sizeM p' * kmax (kmax 1 lo) hi := IntWalk.i64_in _ (by omega)
        by_cases c4 : 400 < n + (sizeM p' * kmax (kmax 1 lo) hi)
        · have d4 := decide_eq_true c4
          simp only [wk, wt, wl, ↓reduceIte, Nat.reduceEqDiff, Nat.reduceAdd, Nat.zero_add, not_false_eq_true, not_true_eq_false, pt, t1, t8, t9, t10, t3, LK V4, LLO V4, LHI V4, d1, mxV3, w1, w2, d4]
          have M3 := kmin_spec (n + (sizeM p' * kmax (kmax 1 lo) hi)) 401
          rw [show kmin (n + (sizeM p' * kmax (kmax 1 lo) hi)) 401 = 401 by omega, sizes_top k lo hi hok.1 _ hok.2.2.drop] at hR
          exact ⟨by simp only [sizeM]; rw [← hR], N1.trans K04⟩
        · have d4 := decide_eq_false c4
          have M3 := kmin_spec (n + (sizeM p' * kmax (kmax 1 lo) hi)) 401
          rw [show kmin (n + (sizeM p' * kmax (kmax 1 lo) hi)) 401 = n + (sizeM p' * kmax (kmax 1 lo) hi) by omega] at hR
          simp only [wk, wt, wl, ↓reduceIte, Nat.reduceEqDiff, Nat.reduceAdd, Nat.zero_add, not_false_eq_true, not_true_eq_false, pt, t1, t8, t9, t10, t3, LK V4, LLO V4, LHI V4, d1, mxV3, w1, w2, d4, wi, intOf_int]
          exact ⟨⟨K04, i + 1, _, rfl, rfl, by omega, by omega, by omega, hR⟩, by omega⟩
      · have d1 := decide_eq_false ck
        have hww : wgt k lo hi p' = sizeM p' := by unfold wgt; rw [if_neg ck]
        rw [hww] at hw
        rw [if_neg ck] at hR
        have w2 : IntKind.i64.wrap (n + sizeM p') = n + sizeM p' := IntWalk.i64_in _ (by omega)
        by_cases c4 : 400 < n + (sizeM p')
        · have d4 := decide_eq_true c4
          simp only [wk, wt, wl, ↓reduceIte, Nat.reduceEqDiff, Nat.reduceAdd, Nat.zero_add, not_false_eq_true, not_true_eq_false, pt, t1, t8, t9, t10, t3, LK V4, d1, w2, d4]
          have M3 := kmin_spec (n + (sizeM p')) 401
          rw [show kmin (n + (sizeM p')) 401 = 401 by omega, sizes_top k lo hi hok.1 _ hok.2.2.drop] at hR
          exact ⟨by simp only [sizeM]; rw [← hR], N1.trans K04⟩
        · have d4 := decide_eq_false c4
          have M3 := kmin_spec (n + (sizeM p')) 401
          rw [show kmin (n + (sizeM p')) 401 = n + (sizeM p') by omega] at hR
          simp only [wk, wt, wl, ↓reduceIte, Nat.reduceEqDiff, Nat.reduceAdd, Nat.zero_add, not_false_eq_true, not_true_eq_false, pt, t1, t8, t9, t10, t3, LK V4, d1, w2, d4, wi, intOf_int]
          exact ⟨⟨K04, i + 1, _, rfl, rfl, by omega, by omega, by omega, hR⟩, by omega⟩
    · have : i = ps.length := by omega
      rw [this, List.drop_length] at hR
      simp only [sizesM] at hR
      simp only [wk, wt, wl, ↓reduceIte, Nat.reduceEqDiff, Nat.reduceAdd, Nat.zero_add, not_false_eq_true, not_true_eq_false, t3]
      exact ⟨by rw [hR]; simp only [sizeM], N1.trans K⟩
end Go.Proofs.Ytnnkcbkenofhmaa.Am
