/- Patterns, the program: contract of set, by a walk. -/
import Derived.Test.YtnnkcbkenofhmaaKd
import Derived.Test.YtnnkcbkenofhmaaKb
set_option linter.unusedSimpArgs false
set_option linter.unusedVariables false
set_option maxHeartbeats 4000000
set_option maxRecDepth 20000
namespace Go.Proofs.Ytnnkcbkenofhmaa.Am
open Go Go.RowKit Go.Proofs.Try
theorem bsSp {h : Heap} {x y : Int} : abuildSlice prog h 23 1 #[(0, .agg #[.int .i64 x, .int .i64 y])] = some (.slice (some ⟨h.size, 0, none⟩) 1 2, h.new 50 [.int .i64 x, .int .i64 y]) :=
  buildA2 underlying23 asz50 azero50 rfl rfl rfl
theorem build_sp {x y : Int} : abuild prog 50 #[(0, .int .i64 x), (1, .int .i64 y)] = some (.agg #[.int .i64 x, .int .i64 y]) := by simp [abuild, wt, aplaces, Instr.fill, Value.cells]
theorem cv32 {x : Int} (h1 : -2147483648 ≤ x) (h2 : x ≤ 2147483647) : ∀ h, aconv prog h 21 3 (.int .i32 x) = some (.int .i64 x) := fun h => by
  have w : IntKind.i64.wrap x = x := IntWalk.i64_in _ (by omega)
  simp [aconv, underlying21, underlying3, w]
def setC (sv : Value) (nt : Bool) : RC := ⟨3, 0, sv, nt, 0, 0, nilS⟩
def I32 (l : List Int) : Prop := ∀ x, x ∈ l → -2147483648 ≤ x ∧ x ≤ 2147483647
theorem ReR.set {h : Heap} {D : Nat → Prop} {acc : List (Int × Int)} {sv : Value} {nt : Bool} (S : RS prog h 2 spC sv acc) (hb : ∀ b, blkOf sv = some b → ¬ D b) : ReR h D (pS acc nt) (setC sv nt) :=
  ⟨rfl, rfl, rfl, rfl, rfl, S, hb, (fun _ e => by cases e), [], RS.nil, rfl⟩
/-- The relation of the second loop. -/
structure SetI (h hh : Heap) (rb pb : Nat) (t0 : List Int) (g o : Int) (nt : Bool) (w sv : Value) (r : List Int) (acc : List (Int × Int)) : Prop where
  S : RdI prog hh .i32 w r
  hw : ∀ b, blkOf w = some b → b = pb
  hp : pb < h.size ∧ pb ≠ rb
  V2 : Var hh h.size (reC rc0)
  V3 : Var hh (h.size + 1) (reC (setC sv nt))
  O : OS prog h.size hh 2 spC sv acc
  hs : ∀ b, blkOf sv = some b → h.size + 1 < b
  R : RD hh rb pb t0 g o
  C : Ch (Bx rb) h hh
  z : h.size + 2 ≤ hh.size
theorem SetI.keeps {h hh h2 : Heap} {rb pb : Nat} {t0 : List Int} {g o : Int} {nt : Bool} {w sv : Value} {r : List Int} {acc : List (Int × Int)} (X : SetI h hh rb pb t0 g o nt w sv r acc) (H : Wf h) (K : Keeps hh h2) : SetI h h2 rb pb t0 g o nt w sv r acc :=
  ⟨X.S.keeps K, X.hw, X.hp, Keeps.var (Ch.wf X.C) K X.V2, Keeps.var (Ch.wf X.C) K X.V3, X.O.keeps K, X.hs, X.R.keeps (Ch.wf X.C) K, X.C.then K fun _ e => e.elim, Nat.le_trans X.z (Ch.le K)⟩
/-- One span more. -/
theorem SetI.push {h hh : Heap} {rb pb : Nat} {t0 : List Int} {g o : Int} {nt : Bool} {w sv : Value} {r : List Int} {acc : List (Int × Int)} (X : SetI h hh rb pb t0 g o nt w sv r acc) (H : Wf h) (hr : rb < h.size) (x : Int × Int) (hl : acc.length ≤ 100000000) {k : Nat} (hk : k ≤ r.length) :
    ∃ v' h1 h2, aappend prog (hh.new 50 (spC x)) 23 23 sv (.slice (some ⟨hh.size, 0, none⟩) 1 2) = some (v', h1) ∧ storeV prog h1 23 (.pointer (some ⟨h.size + 1, 2, none⟩)) v' = some (undef, h2) ∧
      aslice prog h2 22 w (some (.int .i64 (k : Int))) none none = some (sliceV w 1 k r.length) ∧ SetI h h2 rb pb t0 g o nt (sliceV w 1 k r.length) v' (r.drop k) (acc ++ [x]) := by
  have Hh := Ch.wf X.C
  obtain ⟨v', h1, e1, O1, C1, R1, ev⟩ := X.O.append1 (P := prog) Hh (Ch.le X.C) underlying23 elem50 fits50 (by decide) (by decide) x rfl (by omega)
  have hD : ∀ b, blkOf sv = some b ∧ h.size ≤ b → h.size + 1 < b := fun b e => X.hs b e.1
  have ov : one v' = true := by rw [ev]; rfl
  have V3 := Ch.var Hh C1 X.V3 fun e => by have := hD _ e; omega
  obtain ⟨h2, e2, V3', C2, z2⟩ := V3.store1 (P := prog) (t := 23) (v := v') (i := 2) (Ch.wf C1) asz23 (by simp [reC]) ov
  have hb1 : ∀ b, blkOf v' = some b → b = hh.size + 1 := fun b e => by rw [ev] at e; cases e; rfl
  have hsz : hh.size ≤ h1.size := Ch.le C1
  have CC : Ch (fun b => b = h.size + 1 ∨ (blkOf sv = some b ∧ h.size ≤ b)) hh h2 := (C1.mono fun b e => .inr e).then C2 fun b e => .inr (.inl e)
  have hCC : ∀ b, (b = h.size + 1 ∨ (blkOf sv = some b ∧ h.size ≤ b)) → h.size < b := fun b e => by
    rcases e with e | e
    · omega
    · have := hD b e; omega
  have S2 : RdI prog h2 .i32 w r := Ch.rd CC X.S fun b e f => by have := hCC b f; have := X.hw b e; have := X.hp; omega
  obtain ⟨q1, q2, q3⟩ := S2.lo hk
  refine ⟨v', h1, h2, e1, e2, q1, ⟨q2, fun b e => X.hw b (by rw [← q3]; exact e), X.hp, Ch.var Hh CC X.V2 (fun e => by have := hCC _ e; omega), V3', ?_, fun b e => by have := hb1 b e; have := X.z; omega, X.R.ch Hh CC (fun e => by have := hCC _ e; omega) (fun e => by have := hCC _ e; have := X.hp; omega), X.C.then CC fun b e => .inl (by have := hCC b e; omega), by have := X.z; omega⟩⟩
  refine Ch.own C2 O1 fun b e f => ?_
  have := hb1 b e; have := X.z; omega
theorem spans_two {n : Nat} {acc : List (Int × Int)} {x z : Int} {t : List Int} : spansM (n + 1) acc (x :: 45 :: z :: t) = if z < x then .error 5 else spansM n (acc ++ [(x, z)]) t := rfl
theorem spans_one {n : Nat} {acc : List (Int × Int)} {x : Int} {t : List Int} (h : ∀ z u, t ≠ 45 :: z :: u) : spansM (n + 1) acc (x :: t) = if x < x then .error 5 else spansM n (acc ++ [(x, x)]) t := by
  rw [if_neg (by omega)]
  rcases t with _ | ⟨y, _ | ⟨z, u⟩⟩
  · simp [spansM]
  · simp [spansM]
  · have hy : y ≠ 45 := fun e => h z u (by rw [e])
    simp [spansM, hy]
def setR (nt : Bool) (l : List Int) : Except Int (Pat × List Int) := match findM (l.drop 1) with
  | none => .error 10
  | some i => match spansM (i + 2) [] (l.take (i + 1)) with
    | .error e => .error e
    | .ok s => .ok (pS s nt, l.drop (i + 2))
theorem setM_nt {l : List Int} : setM (94 :: l) = setR true l := rfl
theorem setM_no {l : List Int} (h : l.head? ≠ some 94) : setM l = setR false l := by
  unfold setM setR
  simp only [h, decide_false, Bool.false_eq_true, if_false]
  rfl
theorem set_ok {h : Heap} {rb pb : Nat} {l : List Int} {g o : Int} (R : RD h rb pb (91 :: l) g o) (hl : l.length ≤ 10000000) (h32 : I32 l) : ACallsX prog 39 #[pt rb] h
    (fun y h' => ∃ p t c, setM l = .ok (p, t) ∧ y = reV c ∧ ReR h' (Lt h.size) p c ∧ RD h' rb pb t g o ∧ Ch (Bx rb) h h') (fun v h' => ∃ e, setM l = .error e ∧ v = flt e ∧ Ch (Bx rb) h h') := by
  refine acallsX_of_W' func39 rfl (by kernel_rfl) (by kernel_rfl) (by simp [ntmps39]) ?_
  intro H
  obtain ⟨hrl, hpl, hpr⟩ := R.lt H
  obtain ⟨rv, V, S, hb, _, _⟩ := R
  have N1 := Keeps.new H 26 (reC rc0)
  have V2 := Var.new (e := 26) H (cs := reC rc0)
  have V3 := Var.new (e := 26) (Ch.wf N1) (cs := reC rc0)
  have N2 := Keeps.new (Ch.wf N1) 26 (reC rc0)
  have hz1 : (h.new 26 (reC rc0)).size = h.size + 1 := rfl
  rw [hz1] at V3
  have V2' := Keeps.var (Ch.wf N1) N2 V2
  obtain ⟨h3, e3, V3', C3, z3⟩ := V3.put (Ch.wf N2) (d := setC nilS false) rfl rfl
  have K3 : Keeps h h3 := (N1.trans N2).step C3 fun b e => by omega
  have V23 := Ch.var (Ch.wf N2) C3 V2' (by omega)
  have S3 := S.keeps K3
  have Vr3 := Keeps.var H K3 V
  obtain ⟨LD0, _, _⟩ := Vr3.ld
  have SL : aslice prog h3 22 rv (some (.int .i64 1)) none none = some (sliceV rv 1 1 (91 :: l).length) := (S3.lo (k := 1) (by simp)).1
  have S4 : RdI prog h3 .i32 (sliceV rv 1 1 (91 :: l).length) l := (S3.lo (k := 1) (by simp)).2.1
  have B4 : blkOf (sliceV rv 1 1 (91 :: l).length) = blkOf rv := sliceV_blk
  have bk : abuild prog 26 #[(0, .int .i64 3)] = some (reV (setC nilS false)) := build_rek
  have hz3 : h.size + 2 ≤ h3.size := by rw [z3]; show _ ≤ h.size + 1 + 1; omega
  generalize hlv : sliceV rv 1 1 (91 :: l).length = lv at SL S4 B4
  rcases l with _ | ⟨a, l⟩
  · have LN4 := S4.ln (n := 0) rfl
    have d4 : decide ((0 : Int) < 0) = false := rfl
    simp only [wk, wt, wl, ↓reduceIte, Nat.reduceEqDiff, Nat.reduceAdd, Nat.zero_add, not_false_eq_true, not_true_eq_false, pt, newRe, newSz, bk, e3, LD0, SL, LN4, d4]
    have LNL := S4.ln (n := (([] : List Int).length : Int)) rfl
    refine W_loop (fun tm h' => h3 = h' ∧ tm 0 = pt rb ∧ tm 2 = pt h.size ∧ tm 3 = pt (h.size + 1) ∧ tm 4 = lv ∧ tm 5 = .int .i64 (-1) ∧ tm 28 = lv ∧ tm 29 = .int .i64 (([] : List Int).length : Int) ∧ ∃ i : Nat, tm 30 = .int .i64 (i : Int) ∧ i ≤ ([] : List Int).length ∧ ∀ j, 1 ≤ j → j < i → ([] : List Int)[j]? ≠ some 93)
      (fun tm _ => (([] : List Int).length - intOf (tm 30)).toNat) ⟨rfl, (by first | rfl | (simp only [wk, wt, wl, ↓reduceIte, Nat.reduceEqDiff, Nat.reduceAdd, Nat.zero_add, not_false_eq_true, not_true_eq_false]; done) | (simp only [wk, wt, wl, ↓reduceIte, Nat.reduceEqDiff, Nat.reduceAdd, Nat.zero_add, not_false_eq_true, not_true_eq_false]; rfl) | (simp only [wk, wt, wl, ↓reduceIte, Nat.reduceEqDiff, Nat.reduceAdd, Nat.zero_add, not_false_eq_true, not_true_eq_false, pt]; done) | (simp only [wk, wt, wl, ↓reduceIte, Nat.reduceEqDiff, Nat.reduceAdd, Nat.zero_add, not_false_eq_true, not_true_eq_false, pt]; rfl)), (by first | rfl | (simp only [wk, wt, wl, ↓reduceIte, Nat.reduceEqDiff, Nat.reduceAdd, Nat.zero_add, not_false_eq_true, not_true_eq_false]; done) | (simp only [wk, wt, wl, ↓reduceIte, Nat.reduceEqDiff, Nat.reduceAdd, Nat.zero_add, not_false_eq_true, not_true_eq_false]; rfl) | (simp only [wk, wt, wl, ↓reduceIte, Nat.reduceEqDiff, Nat.reduceAdd, Nat.zero_add, not_false_eq_true, not_true_eq_false, pt]; done) | (simp only [wk, wt, wl, ↓reduceIte, Nat.reduceEqDiff, Nat.reduceAdd, Nat.zero_add, not_false_eq_true, not_true_eq_false, pt]; rfl)), (by first | rfl | (simp only [wk, wt, wl, ↓reduceIte, Nat.reduceEqDiff, Nat.reduceAdd, Nat.zero_add, not_false_eq_true, not_true_eq_false]; done) | (simp only [wk, wt, wl, ↓reduceIte, Nat.reduceEqDiff, Nat.reduceAdd, Nat.zero_add, not_false_eq_true, not_true_eq_false]; rfl) | (simp only [wk, wt, wl, ↓reduceIte, Nat.reduceEqDiff, Nat.reduceAdd, Nat.zero_add, not_false_eq_true, not_true_eq_false, pt]; done) | (simp only [wk, wt, wl, ↓reduceIte, Nat.reduceEqDiff, Nat.reduceAdd, Nat.zero_add, not_false_eq_true, not_true_eq_false, pt]; rfl)), (by first | rfl | (simp only [wk, wt, wl, ↓reduceIte, Nat.reduceEqDiff, Nat.reduceAdd, Nat.zero_add, not_false_eq_true, not_true_eq_false]; done) | (simp only [wk, wt, wl, ↓reduceIte, Nat.reduceEqDiff, Nat.reduceAdd, Nat.zero_add, not_false_eq_true, not_true_eq_false]; rfl) | (simp only [wk, wt, wl, ↓reduceIte, Nat.reduceEqDiff, Nat.reduceAdd, Nat.zero_add, not_false_eq_true, not_true_eq_false, pt]; done) | (simp only [wk, wt, wl, ↓reduceIte, Nat.reduceEqDiff, Nat.reduceAdd, Nat.zero_add, not_false_eq_true, not_true_eq_false, pt]; rfl)), (by first | rfl | (simp only [wk, wt, wl, ↓reduceIte, Nat.reduceEqDiff, Nat.reduceAdd, Nat.zero_add, not_false_eq_true, not_true_eq_false]; done) | (simp only [wk, wt, wl, ↓reduceIte, Nat.reduceEqDiff, Nat.reduceAdd, Nat.zero_add, not_false_eq_true, not_true_eq_false]; rfl) | (simp only [wk, wt, wl, ↓reduceIte, Nat.reduceEqDiff, Nat.reduceAdd, Nat.zero_add, not_false_eq_true, not_true_eq_false, pt]; done) | (simp only [wk, wt, wl, ↓reduceIte, Nat.reduceEqDiff, Nat.reduceAdd, Nat.zero_add, not_false_eq_true, not_true_eq_false, pt]; rfl)), (by first | rfl | (simp only [wk, wt, wl, ↓reduceIte, Nat.reduceEqDiff, Nat.reduceAdd, Nat.zero_add, not_false_eq_true, not_true_eq_false]; done) | (simp only [wk, wt, wl, ↓reduceIte, Nat.reduceEqDiff, Nat.reduceAdd, Nat.zero_add, not_false_eq_true, not_true_eq_false]; rfl) | (simp only [wk, wt, wl, ↓reduceIte, Nat.reduceEqDiff, Nat.reduceAdd, Nat.zero_add, not_false_eq_true, not_true_eq_false, pt]; done) | (simp only [wk, wt, wl, ↓reduceIte, Nat.reduceEqDiff, Nat.reduceAdd, Nat.zero_add, not_false_eq_true, not_true_eq_false, pt]; rfl)), (by first | rfl | (simp only [wk, wt, wl, ↓reduceIte, Nat.reduceEqDiff, Nat.reduceAdd, Nat.zero_add, not_false_eq_true, not_true_eq_false]; done) | (simp only [wk, wt, wl, ↓reduceIte, Nat.reduceEqDiff, Nat.reduceAdd, Nat.zero_add, not_false_eq_true, not_true_eq_false]; rfl) | (simp only [wk, wt, wl, ↓reduceIte, Nat.reduceEqDiff, Nat.reduceAdd, Nat.zero_add, not_false_eq_true, not_true_eq_false, pt]; done) | (simp only [wk, wt, wl, ↓reduceIte, Nat.reduceEqDiff, Nat.reduceAdd, Nat.zero_add, not_false_eq_true, not_true_eq_false, pt]; rfl)), 0, (by first | rfl | (simp only [wk, wt, wl, ↓reduceIte, Nat.reduceEqDiff, Nat.reduceAdd, Nat.zero_add, not_false_eq_true, not_true_eq_false]; done) | (simp only [wk, wt, wl, ↓reduceIte, Nat.reduceEqDiff, Nat.reduceAdd, Nat.zero_add, not_false_eq_true, not_true_eq_false]; rfl)), by omega, fun j h1 h2 => by omega⟩ ?_
    rintro tm _ ⟨rfl, t0, t2, t3, t4, t5, t28, t29, i, t30, hi, hno⟩
    simp only [wk, wt, wl, ↓reduceIte, Nat.reduceEqDiff, Nat.reduceAdd, Nat.zero_add, not_false_eq_true, not_true_eq_false, t30, t29]
    refine condK_dec (fun hd => ?_) (fun hd => ?_)
    · have hi1 : i < ([] : List Int).length := by omega
      obtain ⟨y, hy⟩ : ∃ y, ([] : List Int)[i]? = some y := ⟨_, List.getElem?_eq_getElem hi1⟩
      have IX := (S4.ix hy).1
      have LX := (S4.ix hy).2
      have wi : IntKind.i64.wrap ((i : Int) + 1) = ((i + 1 : Nat) : Int) := by rw [IntWalk.i64_in _ (by omega)]; omega
      by_cases c1 : y = 93 ∧ 0 < i
      · have d1 := decide_eq_true c1.1
        have d2 : decide (0 < (i : Int)) = true := decide_eq_true (by omega)
        have d3 : decide ((i : Int) < 0) = false := decide_eq_false (by omega)
        obtain ⟨n, rfl⟩ : ∃ n, i = n + 1 := ⟨i - 1, by omega⟩
        have hfi : findM (([] : List Int).drop 1) = some n := find_at (by rw [List.getElem?_drop, Nat.add_comm 1 n, hy, c1.1]) (fun j hj => by rw [List.getElem?_drop]; exact hno _ (by omega) (by omega))
        have SL := (S4.lo (k := n + 2) (by omega)).1
        have SL2 := (S4.lo (k := n + 2) (by omega)).2
        have wi2 : IntKind.i64.wrap (((n + 1 : Nat) : Int) + 1) = ((n + 2 : Nat) : Int) := by rw [IntWalk.i64_in _ (by omega)]; omega
        have hVr : Var h3 rb [rv, .int .i64 g, .int .i64 o] := Keeps.var H K3 V
        obtain ⟨h7, e7, V7, C7, z7⟩ := hVr.store1 (P := prog) (t := 22) (v := sliceV lv 1 (n + 2) ([] : List Int).length) (i := 0) (Ch.wf K3) asz22 (by simp) (Rd.one SL2.1)
        simp only [List.set_cons_zero] at V7
        have hD7 : ∀ b, blkOf lv = some b → ¬ (b = rb) := fun b e f => by rw [B4] at e; have := hb b e; omega
        have S7 := Ch.rd C7 S4 hD7
        have SH := Rd.sliceHi S7 underlying22 asz21 (q' := .i64) (j := ((n + 1 : Nat) : Int)) (by omega) (by omega)
        rw [Int.toNat_natCast] at SH
        have S8 : RdI prog h7 .i32 (sliceV lv 1 0 (n + 1)) (([] : List Int).take (n + 1)) := by
          have := RdI.part (P := prog) (k := .i32) (show RdI prog h7 .i32 lv ([] : List Int) from S7) (L := 0) (H := n + 1) (by omega) (by omega)
          simpa using this
        simp only [wk, wt, wl, ↓reduceIte, Nat.reduceEqDiff, Nat.reduceAdd, Nat.zero_add, not_false_eq_true, not_true_eq_false, t0, t2, t3, t4, t5, t28, t30, IX, LX, d1, d2, d3, wi, pt, wi2, SL, e7, SH]
        have X0 : SetI h h7 rb pb (([] : List Int).drop (n + 2)) g o false (sliceV lv 1 0 (n + 1)) nilS (([] : List Int).take (n + 1)) [] := ⟨S8, fun b e => hb b (by rw [sliceV_blk, B4] at e; exact e), ⟨hpl, hpr⟩, Ch.var (Ch.wf K3) C7 V23 (by omega), Ch.var (Ch.wf K3) C7 V3' (by omega), OS.nil, (fun b e => by cases e),
          ⟨_, V7, Ch.rd C7 SL2.1 (fun b e => hD7 b (by rw [sliceV_blk] at e; exact e)), fun b e => hb b (by rw [sliceV_blk, B4] at e; exact e), hpr, by rw [z7]; exact Nat.lt_of_lt_of_le hpl (Ch.le K3)⟩, (K3.mono (D' := Bx rb) fun _ e => e.elim).then C7 fun b e => .inr e, by rw [z7]; exact hz3⟩
        have hM : setM ([] : List Int) = setR false ([] : List Int) := (setM_no (by simp))
        have hlt : (([] : List Int).take (n + 1)).length = n + 1 := by rw [List.length_take]; omega
        have h32' : I32 (([] : List Int).take (n + 1)) := fun y hy => h32 y (List.mem_of_mem_take hy)
        refine W_loopI (fun k tm hh => tm 0 = pt rb ∧ tm 2 = pt h.size ∧ tm 3 = pt (h.size + 1) ∧ ∃ w sv r acc m, tm 4 = w ∧ SetI h hh rb pb (([] : List Int).drop (n + 2)) g o false w sv r acc ∧ r.length = k ∧ k < m ∧ acc.length + k ≤ n + 1 ∧ spansM (n + 2) [] (([] : List Int).take (n + 1)) = spansM m acc r ∧ I32 r)
          ⟨n + 1, (by first | rfl | (simp only [wk, wt, wl, ↓reduceIte, Nat.reduceEqDiff, Nat.reduceAdd, Nat.zero_add, not_false_eq_true, not_true_eq_false]; done) | (simp only [wk, wt, wl, ↓reduceIte, Nat.reduceEqDiff, Nat.reduceAdd, Nat.zero_add, not_false_eq_true, not_true_eq_false]; rfl) | (simp only [wk, wt, wl, ↓reduceIte, Nat.reduceEqDiff, Nat.reduceAdd, Nat.zero_add, not_false_eq_true, not_true_eq_false, t0, pt]; done) | (simp only [wk, wt, wl, ↓reduceIte, Nat.reduceEqDiff, Nat.reduceAdd, Nat.zero_add, not_false_eq_true, not_true_eq_false, t0, pt]; rfl)), (by first | rfl | (simp only [wk, wt, wl, ↓reduceIte, Nat.reduceEqDiff, Nat.reduceAdd, Nat.zero_add, not_false_eq_true, not_true_eq_false]; done) | (simp only [wk, wt, wl, ↓reduceIte, Nat.reduceEqDiff, Nat.reduceAdd, Nat.zero_add, not_false_eq_true, not_true_eq_false]; rfl) | (simp only [wk, wt, wl, ↓reduceIte, Nat.reduceEqDiff, Nat.reduceAdd, Nat.zero_add, not_false_eq_true, not_true_eq_false, t2, pt]; done) | (simp only [wk, wt, wl, ↓reduceIte, Nat.reduceEqDiff, Nat.reduceAdd, Nat.zero_add, not_false_eq_true, not_true_eq_false, t2, pt]; rfl)), (by first | rfl | (simp only [wk, wt, wl, ↓reduceIte, Nat.reduceEqDiff, Nat.reduceAdd, Nat.zero_add, not_false_eq_true, not_true_eq_false]; done) | (simp only [wk, wt, wl, ↓reduceIte, Nat.reduceEqDiff, Nat.reduceAdd, Nat.zero_add, not_false_eq_true, not_true_eq_false]; rfl) | (simp only [wk, wt, wl, ↓reduceIte, Nat.reduceEqDiff, Nat.reduceAdd, Nat.zero_add, not_false_eq_true, not_true_eq_false, t3, pt]; done) | (simp only [wk, wt, wl, ↓reduceIte, Nat.reduceEqDiff, Nat.reduceAdd, Nat.zero_add, not_false_eq_true, not_true_eq_false, t3, pt]; rfl)), _, _, _, _, n + 2, (by first | rfl | (simp only [wk, wt, wl, ↓reduceIte, Nat.reduceEqDiff, Nat.reduceAdd, Nat.zero_add, not_false_eq_true, not_true_eq_false]; done) | (simp only [wk, wt, wl, ↓reduceIte, Nat.reduceEqDiff, Nat.reduceAdd, Nat.zero_add, not_false_eq_true, not_true_eq_false]; rfl)), X0, hlt, by omega, by simp, rfl, h32'⟩ ?_
        clear t0 t2 t3 t4 t5 t28 t29 t30 X0 S7 S8 SH
        rintro k tm hh ⟨t0, t2, t3, w, sv, r, acc, m, t4, X, hk, hn, hL, hg, h32⟩
        obtain ⟨m, rfl⟩ : ∃ q, m = q + 1 := ⟨m - 1, by omega⟩
        rcases r with _ | ⟨x, r⟩
        · have LN := X.S.ln (n := 0) rfl
          have d0 : decide ((0 : Int) < 0) = false := rfl
          have o1 : one sv = true := Rd.one X.O.1
          obtain ⟨h9, e9, V9, C9, z9⟩ := X.V2.put (Ch.wf X.C) (d := setC sv false) o1 rfl
          simp only [wk, wt, wl, ↓reduceIte, Nat.reduceEqDiff, Nat.reduceAdd, Nat.zero_add, not_false_eq_true, not_true_eq_false, t0, t2, t3, t4, LN, d0, pt, X.V3.re, e9, V9.re]
          have hC9 : Ch (Bx rb) h h9 := X.C.then C9 fun b e => .inl (by omega)
          refine ⟨pS acc false, ([] : List Int).drop (n + 2), setC sv false, ?_, rfl, ReR.set (Ch.rd C9 X.O.1 fun b e => by have := X.hs b e; omega) (fun b e f => ?_), X.R.ch (Ch.wf X.C) C9 (by omega) (by omega), hC9⟩
          · rw [hM]; unfold setR; rw [hfi]; simp only; rw [hg]; rfl
          · have := X.hs b e; have : b < h.size := f; omega
        · have LN := X.S.ln (n := (r.length : Int) + 1) (by simp)
          have d0 : decide (0 < (r.length : Int) + 1) = true := decide_eq_true (by omega)
          have IX : aindexAddr prog 22 w (.int .i64 0) = _ := (X.S.ix (i := 0) rfl).1
          have LX := (X.S.ix (i := 0) rfl).2
          have hx := h32 x (by simp)
          have cvx := cv32 hx.1 hx.2
          have Hh := Ch.wf X.C
          have N1 := Keeps.new Hh 50 [.int .i64 0, .int .i64 0]
          obtain ⟨h4, e4, V4, C4, z4⟩ := (Var.new (e := 50) Hh (cs := [.int .i64 0, .int .i64 0])).store (P := prog) (t := 50) (v := .agg #[.int .i64 x, .int .i64 x]) (i := 0) (Ch.wf N1) asz50 (by simp [Value.cells]) (by simp [Value.cells, one])
          have V4' : Var h4 hh.size [.int .i64 x, .int .i64 x] := V4
          have K4 := N1.step C4 fun b e => by omega
          have X4 := X.keeps H K4
          have L0 := fun {hq : Heap} {a b : Int} (V : Var hq hh.size [.int .i64 a, .int .i64 b]) => V.load1 (P := prog) (t := 3) underlying3 rfl (i := 0)
          have L1 := fun {hq : Heap} {a b : Int} (V : Var hq hh.size [.int .i64 a, .int .i64 b]) => V.load1 (P := prog) (t := 3) underlying3 rfl (i := 1)
          simp only [List.getElem?_cons_succ, List.getElem?_cons_zero] at L0 L1
          simp only [wk, wt, wl, ↓reduceIte, Nat.reduceEqDiff, Nat.reduceAdd, Nat.zero_add, not_false_eq_true, not_true_eq_false, t0, t2, t3, t4, LN, d0, pt]
          refine adraw_order [(0, false), (1, false), (2, false), (3, false), (4, false), (5, false), (6, false), (7, false), (8, false), (9, true), (10, false), (11, false)] mixed (by kernel_rfl) (by kernel_rfl) (by kernel_rfl) (by with_reducible repeat (first | exact PF_retK | refine PF_thenK ?_ | refine PF_blockK ?_)) ?_
          simp only [wk, wt, wl, ↓reduceIte, Nat.reduceEqDiff, Nat.reduceAdd, Nat.zero_add, not_false_eq_true, not_true_eq_false, dK_t, t0, t2, t3, t4, IX, LX, cvx, build_sp, e4]
          refine ⟨N1.reads Hh, ?_⟩
          have LN4 := X4.S.ln (n := (r.length : Int) + 1) (by simp)
          rcases r with _ | ⟨y, _ | ⟨z, r⟩⟩
          · have d5 : decide (2 < ((([] : List Int).length : Nat) : Int) + 1) = false := rfl
            have hg1 := hg.trans (spans_one (fun z u e => by cases e))
            simp only [wk, wt, wl, ↓reduceIte, Nat.reduceEqDiff, Nat.reduceAdd, Nat.zero_add, not_false_eq_true, not_true_eq_false, t0, t2, t3, t4, pt, LN4, d5]
            have d9 := L1 V4'
            have d8 := L0 V4'
            by_cases c9 : x < x
            · have e9 := decide_eq_true c9
              rw [if_pos c9] at hg1
              simp only [wk, wt, wl, ↓reduceIte, Nat.reduceEqDiff, Nat.reduceAdd, Nat.zero_add, not_false_eq_true, not_true_eq_false, t0, t2, t3, t4, d9, d8, e9, build_fault, conc_fault]
              exact ⟨5, by rw [hM]; unfold setR; rw [hfi]; simp only; rw [hg1], rfl, X4.C⟩
            · have e9 := decide_eq_false c9
              rw [if_neg c9] at hg1
              obtain ⟨v8, h8, h9, q1, q2, q3, X9⟩ := X4.push H hrl (x, x) (by omega) (k := 1) (by simp)
              have q3' : aslice prog h9 22 w (some (.int .i64 1)) none none = some (sliceV w 1 1 _) := q3
              have q1' : aappend prog (h4.new 50 [.int .i64 x, .int .i64 x]) 23 23 sv (.slice (some ⟨h4.size, 0, none⟩) 1 2) = some (v8, h8) := q1
              have LA := V4'.loadA (P := prog) (t := 50) underlying50 rfl asz50
              have LF := X4.V3.load1 (P := prog) (t := 23) underlying23 rfl (i := 2)
              simp only [reC, setC, List.getElem?_cons_succ, List.getElem?_cons_zero] at LF
              simp only [wk, wt, wl, ↓reduceIte, Nat.reduceEqDiff, Nat.reduceAdd, Nat.zero_add, not_false_eq_true, not_true_eq_false, t0, t2, t3, t4, pt, d9, d8, e9, LF, LA, bsSp, q1', q2, q3']
              simp only [List.length_cons, List.length_nil] at hk hn hL
              exact ⟨([]).length, by (try simp only [List.length_cons, List.length_nil]); omega, _, v8, _, _, m, rfl, X9, rfl, by (try simp only [List.length_cons, List.length_nil]); omega, by (try simp only [List.length_cons, List.length_nil, List.length_append]); omega, hg1, fun y hy => h32 y (List.mem_of_mem_drop (i := 1) hy)⟩
          · have d5 : decide (2 < (([y].length : Nat) : Int) + 1) = false := rfl
            have hg1 := hg.trans (spans_one (fun z u e => by cases e))
            simp only [wk, wt, wl, ↓reduceIte, Nat.reduceEqDiff, Nat.reduceAdd, Nat.zero_add, not_false_eq_true, not_true_eq_false, t0, t2, t3, t4, pt, LN4, d5]
            have d9 := L1 V4'
            have d8 := L0 V4'
            by_cases c9 : x < x
            · have e9 := decide_eq_true c9
              rw [if_pos c9] at hg1
              simp only [wk, wt, wl, ↓reduceIte, Nat.reduceEqDiff, Nat.reduceAdd, Nat.zero_add, not_false_eq_true, not_true_eq_false, t0, t2, t3, t4, d9, d8, e9, build_fault, conc_fault]
              exact ⟨5, by rw [hM]; unfold setR; rw [hfi]; simp only; rw [hg1], rfl, X4.C⟩
            · have e9 := decide_eq_false c9
              rw [if_neg c9] at hg1
              obtain ⟨v8, h8, h9, q1, q2, q3, X9⟩ := X4.push H hrl (x, x) (by omega) (k := 1) (by simp)
              have q3' : aslice prog h9 22 w (some (.int .i64 1)) none none = some (sliceV w 1 1 _) := q3
              have q1' : aappend prog (h4.new 50 [.int .i64 x, .int .i64 x]) 23 23 sv (.slice (some ⟨h4.size, 0, none⟩) 1 2) = some (v8, h8) := q1
              have LA := V4'.loadA (P := prog) (t := 50) underlying50 rfl asz50
              have LF := X4.V3.load1 (P := prog) (t := 23) underlying23 rfl (i := 2)
              simp only [reC, setC, List.getElem?_cons_succ, List.getElem?_cons_zero] at LF
              simp only [wk, wt, wl, ↓reduceIte, Nat.reduceEqDiff, Nat.reduceAdd, Nat.zero_add, not_false_eq_true, not_true_eq_false, t0, t2, t3, t4, pt, d9, d8, e9, LF, LA, bsSp, q1', q2, q3']
              simp only [List.length_cons, List.length_nil] at hk hn hL
              exact ⟨([y]).length, by (try simp only [List.length_cons, List.length_nil]); omega, _, v8, _, _, m, rfl, X9, rfl, by (try simp only [List.length_cons, List.length_nil]); omega, by (try simp only [List.length_cons, List.length_nil, List.length_append]); omega, hg1, fun y hy => h32 y (List.mem_of_mem_drop (i := 1) hy)⟩
          · have d5 : decide (2 < (((y :: z :: r).length : Nat) : Int) + 1) = true := decide_eq_true (by simp; omega)
            have IY : aindexAddr prog 22 w (.int .i64 1) = _ := (X4.S.ix (i := 1) rfl).1
            have LY := (X4.S.ix (i := 1) rfl).2
            by_cases c6 : y = 45
            · have d6 := decide_eq_true c6
              subst c6
              have hg1 := hg.trans spans_two
              have IZ : aindexAddr prog 22 w (.int .i64 2) = _ := (X4.S.ix (i := 2) rfl).1
              have LZ := (X4.S.ix (i := 2) rfl).2
              have hz := h32 z (by simp)
              have cvz := cv32 hz.1 hz.2
              obtain ⟨h5, e5, V5, C5, z5⟩ := V4'.store1 (P := prog) (t := 3) (v := .int .i64 z) (i := 1) (Ch.wf K4) asz3 (by simp) rfl
              simp only [List.set_cons_succ, List.set_cons_zero] at V5
              have K5 := K4.step C5 fun b e => by omega
              have X5 := X.keeps H K5
              simp only [wk, wt, wl, ↓reduceIte, Nat.reduceEqDiff, Nat.reduceAdd, Nat.zero_add, not_false_eq_true, not_true_eq_false, t0, t2, t3, t4, pt, LN4, d5, IY, LY, d6, IZ, LZ, cvz, e5]
              have d9 := L1 V5
              have d8 := L0 V5
              by_cases c9 : z < x
              · have e9 := decide_eq_true c9
                rw [if_pos c9] at hg1
                simp only [wk, wt, wl, ↓reduceIte, Nat.reduceEqDiff, Nat.reduceAdd, Nat.zero_add, not_false_eq_true, not_true_eq_false, t0, t2, t3, t4, d9, d8, e9, build_fault, conc_fault]
                exact ⟨5, by rw [hM]; unfold setR; rw [hfi]; simp only; rw [hg1], rfl, X5.C⟩
              · have e9 := decide_eq_false c9
                rw [if_neg c9] at hg1
                obtain ⟨v8, h8, h9, q1, q2, q3, X9⟩ := X5.push H hrl (x, z) (by omega) (k := 3) (by simp)
                have q3' : aslice prog h9 22 w (some (.int .i64 3)) none none = some (sliceV w 1 3 _) := q3
                have q1' : aappend prog (h5.new 50 [.int .i64 x, .int .i64 z]) 23 23 sv (.slice (some ⟨h5.size, 0, none⟩) 1 2) = some (v8, h8) := q1
                have LA := V5.loadA (P := prog) (t := 50) underlying50 rfl asz50
                have LF := X5.V3.load1 (P := prog) (t := 23) underlying23 rfl (i := 2)
                simp only [reC, setC, List.getElem?_cons_succ, List.getElem?_cons_zero] at LF
                simp only [wk, wt, wl, ↓reduceIte, Nat.reduceEqDiff, Nat.reduceAdd, Nat.zero_add, not_false_eq_true, not_true_eq_false, t0, t2, t3, t4, pt, d9, d8, e9, LF, LA, bsSp, q1', q2, q3']
                simp only [List.length_cons, List.length_nil] at hk hn hL
                exact ⟨(r).length, by (try simp only [List.length_cons, List.length_nil]); omega, _, v8, _, _, m, rfl, X9, rfl, by (try simp only [List.length_cons, List.length_nil]); omega, by (try simp only [List.length_cons, List.length_nil, List.length_append]); omega, hg1, fun y hy => h32 y (List.mem_of_mem_drop (i := 3) hy)⟩
            · have d6 := decide_eq_false c6
              have hg1 := hg.trans (spans_one (fun z' u e => by cases e; exact c6 rfl))
              simp only [wk, wt, wl, ↓reduceIte, Nat.reduceEqDiff, Nat.reduceAdd, Nat.zero_add, not_false_eq_true, not_true_eq_false, t0, t2, t3, t4, pt, LN4, d5, IY, LY, d6]
              have d9 := L1 V4'
              have d8 := L0 V4'
              by_cases c9 : x < x
              · have e9 := decide_eq_true c9
                rw [if_pos c9] at hg1
                simp only [wk, wt, wl, ↓reduceIte, Nat.reduceEqDiff, Nat.reduceAdd, Nat.zero_add, not_false_eq_true, not_true_eq_false, t0, t2, t3, t4, d9, d8, e9, build_fault, conc_fault]
                exact ⟨5, by rw [hM]; unfold setR; rw [hfi]; simp only; rw [hg1], rfl, X4.C⟩
              · have e9 := decide_eq_false c9
                rw [if_neg c9] at hg1
                obtain ⟨v8, h8, h9, q1, q2, q3, X9⟩ := X4.push H hrl (x, x) (by omega) (k := 1) (by simp)
                have q3' : aslice prog h9 22 w (some (.int .i64 1)) none none = some (sliceV w 1 1 _) := q3
                have q1' : aappend prog (h4.new 50 [.int .i64 x, .int .i64 x]) 23 23 sv (.slice (some ⟨h4.size, 0, none⟩) 1 2) = some (v8, h8) := q1
                have LA := V4'.loadA (P := prog) (t := 50) underlying50 rfl asz50
                have LF := X4.V3.load1 (P := prog) (t := 23) underlying23 rfl (i := 2)
                simp only [reC, setC, List.getElem?_cons_succ, List.getElem?_cons_zero] at LF
                simp only [wk, wt, wl, ↓reduceIte, Nat.reduceEqDiff, Nat.reduceAdd, Nat.zero_add, not_false_eq_true, not_true_eq_false, t0, t2, t3, t4, pt, d9, d8, e9, LF, LA, bsSp, q1', q2, q3']
                simp only [List.length_cons, List.length_nil] at hk hn hL
                exact ⟨(y :: z :: r).length, by (try simp only [List.length_cons, List.length_nil]); omega, _, v8, _, _, m, rfl, X9, rfl, by (try simp only [List.length_cons, List.length_nil]); omega, by (try simp only [List.length_cons, List.length_nil, List.length_append]); omega, hg1, fun y hy => h32 y (List.mem_of_mem_drop (i := 1) hy)⟩
      · have nx : ∀ j, 1 ≤ j → j < i + 1 → ([] : List Int)[j]? ≠ some 93 := fun j h1 h2 => by
          rcases Nat.lt_or_eq_of_le (Nat.lt_succ_iff.1 h2) with e | rfl
          · exact hno j h1 e
          · rw [hy]; intro e; cases e; exact c1 ⟨rfl, by omega⟩
        by_cases c2 : y = 93
        · have d1 := decide_eq_true c2
          have d2 : decide (0 < (i : Int)) = false := decide_eq_false (fun e => c1 ⟨c2, by omega⟩)
          simp only [wk, wt, wl, ↓reduceIte, Nat.reduceEqDiff, Nat.reduceAdd, Nat.zero_add, not_false_eq_true, not_true_eq_false, t0, t2, t3, t4, t5, t28, t29, t30, IX, LX, d1, d2, wi, intOf_int]
          exact ⟨⟨i + 1, rfl, by omega, nx⟩, by omega⟩
        · have d1 := decide_eq_false c2
          simp only [wk, wt, wl, ↓reduceIte, Nat.reduceEqDiff, Nat.reduceAdd, Nat.zero_add, not_false_eq_true, not_true_eq_false, t0, t2, t3, t4, t5, t28, t29, t30, IX, LX, d1, wi, intOf_int]
          exact ⟨⟨i + 1, rfl, by omega, nx⟩, by omega⟩
    · have d3 : decide ((-1 : Int) < 0) = true := rfl
      have hM : setM ([] : List Int) = setR false ([] : List Int) := (setM_no (by simp))
      have hfi : findM (([] : List Int).drop 1) = none := find_none fun j e => by
        rw [List.getElem?_drop] at e
        have := (List.getElem?_eq_some_iff.1 e).1
        exact hno _ (by omega) (by omega) e
      simp only [wk, wt, wl, ↓reduceIte, Nat.reduceEqDiff, Nat.reduceAdd, Nat.zero_add, not_false_eq_true, not_true_eq_false, t5, d3, build_fault, conc_fault]
      exact ⟨10, by rw [hM]; unfold setR; rw [hfi], rfl, K3.mono fun _ e => e.elim⟩
  · have LN4 := S4.ln (n := (l.length : Int) + 1) (by simp)
    have d4 : decide (0 < (l.length : Int) + 1) = true := decide_eq_true (by omega)
    have IA : aindexAddr prog 22 lv (.int .i64 0) = _ := (S4.ix (i := 0) rfl).1
    have LA := (S4.ix (i := 0) rfl).2
    by_cases ca : a = 94
    · have d5 := decide_eq_true ca
      subst ca
      obtain ⟨h4, e4, V4', C4, z4⟩ := V3'.store1 (P := prog) (t := 4) (v := .bool true) (i := 3) (Ch.wf K3) asz4 (by simp [reC]) rfl
      have V4 : Var h4 (h.size + 1) (reC (setC nilS true)) := V4'
      have K4 : Keeps h h4 := K3.step C4 fun b e => by omega
      have V24 := Ch.var (Ch.wf K3) C4 V23 (by omega)
      have S4' : RdI prog h4 .i32 lv (94 :: l) := Ch.rd C4 S4 fun b e f => by
        rw [B4] at e
        have := hb b e; omega
      have SL5' : aslice prog h4 22 lv (some (.int .i64 1)) none none = some (sliceV lv 1 1 (94 :: l).length) := (S4'.lo (k := 1) (by simp)).1
      have SL5 : aslice prog h3 22 lv (some (.int .i64 1)) none none = some (sliceV lv 1 1 (94 :: l).length) := (S4.lo (k := 1) (by simp)).1
      have S5 : RdI prog h4 .i32 (sliceV lv 1 1 (94 :: l).length) l := Ch.rd C4 (S4.lo (k := 1) (by simp)).2.1 fun b e f => by
        rw [sliceV_blk, B4] at e
        have := hb b e; omega
      have B5 : blkOf (sliceV lv 1 1 (94 :: l).length) = blkOf rv := sliceV_blk.trans B4
      have hz4 : h.size + 2 ≤ h4.size := by rw [z4]; exact hz3
      have h32' : I32 l := fun y hy => h32 y (by simp [hy])
      generalize sliceV lv 1 1 (94 :: l).length = lw at SL5 SL5' S5 B5
      simp only [wk, wt, wl, ↓reduceIte, Nat.reduceEqDiff, Nat.reduceAdd, Nat.zero_add, not_false_eq_true, not_true_eq_false, pt, newRe, newSz, bk, e3, LD0, SL, LN4, d4, IA, LA, d5]
      refine adraw_mid (fun tm hh => h4 = hh ∧ tm 0 = pt rb ∧ tm 2 = pt h.size ∧ tm 3 = pt (h.size + 1) ∧ tm 4 = lw) (.two 0 2 (.two 1 2 (.one 2 (.one 3 (.one 4 .nil))) (.two 1 3 (.one 3 (.one 4 .nil)) (.one 1 (.one 4 .nil)))) (.two 0 3 (.two 1 3 (.one 3 (.one 4 .nil)) (.one 1 (.one 4 .nil))) (.one 0 (.one 1 (.one 4 .nil))))) mixed (by kernel_rfl) (by kernel_rfl) (by kernel_rfl) ?_ ?_
      · simp only [wk, wt, wl, ↓reduceIte, Nat.reduceEqDiff, Nat.reduceAdd, Nat.zero_add, not_false_eq_true, not_true_eq_false, we, SL5, SL5', e4, pt, and_self]
      rintro tm _ ⟨rfl, t0, t2, t3, t4⟩
      have hl' : l.length ≤ 10000000 := by rw [List.length_cons] at hl; omega
      have LN5 := S5.ln (n := (l.length : Int)) rfl
      simp only [wk, wt, wl, ↓reduceIte, Nat.reduceEqDiff, Nat.reduceAdd, Nat.zero_add, not_false_eq_true, not_true_eq_false, t0, t2, t3, t4, pt, LN5]
      have LNL := S5.ln (n := (l.length : Int)) rfl
      refine W_loop (fun tm h' => h4 = h' ∧ tm 0 = pt rb ∧ tm 2 = pt h.size ∧ tm 3 = pt (h.size + 1) ∧ tm 4 = lw ∧ tm 5 = .int .i64 (-1) ∧ tm 28 = lw ∧ tm 29 = .int .i64 (l.length : Int) ∧ ∃ i : Nat, tm 30 = .int .i64 (i : Int) ∧ i ≤ l.length ∧ ∀ j, 1 ≤ j → j < i → l[j]? ≠ some 93)
        (fun tm _ => (l.length - intOf (tm 30)).toNat) ⟨rfl, (by first | rfl | (simp only [wk, wt, wl, ↓reduceIte, Nat.reduceEqDiff, Nat.reduceAdd, Nat.zero_add, not_false_eq_true, not_true_eq_false]; done) | (simp only [wk, wt, wl, ↓reduceIte, Nat.reduceEqDiff, Nat.reduceAdd, Nat.zero_add, not_false_eq_true, not_true_eq_false]; rfl) | (simp only [wk, wt, wl, ↓reduceIte, Nat.reduceEqDiff, Nat.reduceAdd, Nat.zero_add, not_false_eq_true, not_true_eq_false, t0, t2, t3, t4, pt]; done) | (simp only [wk, wt, wl, ↓reduceIte, Nat.reduceEqDiff, Nat.reduceAdd, Nat.zero_add, not_false_eq_true, not_true_eq_false, t0, t2, t3, t4, pt]; rfl)), (by first | rfl | (simp only [wk, wt, wl, ↓reduceIte, Nat.reduceEqDiff, Nat.reduceAdd, Nat.zero_add, not_false_eq_true, not_true_eq_false]; done) | (simp only [wk, wt, wl, ↓reduceIte, Nat.reduceEqDiff, Nat.reduceAdd, Nat.zero_add, not_false_eq_true, not_true_eq_false]; rfl) | (simp only [wk, wt, wl, ↓reduceIte, Nat.reduceEqDiff, Nat.reduceAdd, Nat.zero_add, not_false_eq_true, not_true_eq_false, t0, t2, t3, t4, pt]; done) | (simp only [wk, wt, wl, ↓reduceIte, Nat.reduceEqDiff, Nat.reduceAdd, Nat.zero_add, not_false_eq_true, not_true_eq_false, t0, t2, t3, t4, pt]; rfl)), (by first | rfl | (simp only [wk, wt, wl, ↓reduceIte, Nat.reduceEqDiff, Nat.reduceAdd, Nat.zero_add, not_false_eq_true, not_true_eq_false]; done) | (simp only [wk, wt, wl, ↓reduceIte, Nat.reduceEqDiff, Nat.reduceAdd, Nat.zero_add, not_false_eq_true, not_true_eq_false]; rfl) | (simp only [wk, wt, wl, ↓reduceIte, Nat.reduceEqDiff, Nat.reduceAdd, Nat.zero_add, not_false_eq_true, not_true_eq_false, t0, t2, t3, t4, pt]; done) | (simp only [wk, wt, wl, ↓reduceIte, Nat.reduceEqDiff, Nat.reduceAdd, Nat.zero_add, not_false_eq_true, not_true_eq_false, t0, t2, t3, t4, pt]; rfl)), (by first | rfl | (simp only [wk, wt, wl, ↓reduceIte, Nat.reduceEqDiff, Nat.reduceAdd, Nat.zero_add, not_false_eq_true, not_true_eq_false]; done) | (simp only [wk, wt, wl, ↓reduceIte, Nat.reduceEqDiff, Nat.reduceAdd, Nat.zero_add, not_false_eq_true, not_true_eq_false]; rfl) | (simp only [wk, wt, wl, ↓reduceIte, Nat.reduceEqDiff, Nat.reduceAdd, Nat.zero_add, not_false_eq_true, not_true_eq_false, t0, t2, t3, t4, pt]; done) | (simp only [wk, wt, wl, ↓reduceIte, Nat.reduceEqDiff, Nat.reduceAdd, Nat.zero_add, not_false_eq_true, not_true_eq_false, t0, t2, t3, t4, pt]; rfl)), (by first | rfl | (simp only [wk, wt, wl, ↓reduceIte, Nat.reduceEqDiff, Nat.reduceAdd, Nat.zero_add, not_false_eq_true, not_true_eq_false]; done) | (simp only [wk, wt, wl, ↓reduceIte, Nat.reduceEqDiff, Nat.reduceAdd, Nat.zero_add, not_false_eq_true, not_true_eq_false]; rfl) | (simp only [wk, wt, wl, ↓reduceIte, Nat.reduceEqDiff, Nat.reduceAdd, Nat.zero_add, not_false_eq_true, not_true_eq_false, t0, t2, t3, t4, pt]; done) | (simp only [wk, wt, wl, ↓reduceIte, Nat.reduceEqDiff, Nat.reduceAdd, Nat.zero_add, not_false_eq_true, not_true_eq_false, t0, t2, t3, t4, pt]; rfl)), (by first | rfl | (simp only [wk, wt, wl, ↓reduceIte, Nat.reduceEqDiff, Nat.reduceAdd, Nat.zero_add, not_false_eq_true, not_true_eq_false]; done) | (simp only [wk, wt, wl, ↓reduceIte, Nat.reduceEqDiff, Nat.reduceAdd, Nat.zero_add, not_false_eq_true, not_true_eq_false]; rfl) | (simp only [wk, wt, wl, ↓reduceIte, Nat.reduceEqDiff, Nat.reduceAdd, Nat.zero_add, not_false_eq_true, not_true_eq_false, t0, t2, t3, t4, pt]; done) | (simp only [wk, wt, wl, ↓reduceIte, Nat.reduceEqDiff, Nat.reduceAdd, Nat.zero_add, not_false_eq_true, not_true_eq_false, t0, t2, t3, t4, pt]; rfl)), (by first | rfl | (simp only [wk, wt, wl, ↓reduceIte, Nat.reduceEqDiff, Nat.reduceAdd, Nat.zero_add, not_false_eq_true, not_true_eq_false]; done) | (simp only [wk, wt, wl, ↓reduceIte, Nat.reduceEqDiff, Nat.reduceAdd, Nat.zero_add, not_false_eq_true, not_true_eq_false]; rfl) | (simp only [wk, wt, wl, ↓reduceIte, Nat.reduceEqDiff, Nat.reduceAdd, Nat.zero_add, not_false_eq_true, not_true_eq_false, t0, t2, t3, t4, pt]; done) | (simp only [wk, wt, wl, ↓reduceIte, Nat.reduceEqDiff, Nat.reduceAdd, Nat.zero_add, not_false_eq_true, not_true_eq_false, t0, t2, t3, t4, pt]; rfl)), 0, (by first | rfl | (simp only [wk, wt, wl, ↓reduceIte, Nat.reduceEqDiff, Nat.reduceAdd, Nat.zero_add, not_false_eq_true, not_true_eq_false]; done) | (simp only [wk, wt, wl, ↓reduceIte, Nat.reduceEqDiff, Nat.reduceAdd, Nat.zero_add, not_false_eq_true, not_true_eq_false]; rfl)), by omega, fun j h1 h2 => by omega⟩ ?_
      rintro tm _ ⟨rfl, t0, t2, t3, t4, t5, t28, t29, i, t30, hi, hno⟩
      simp only [wk, wt, wl, ↓reduceIte, Nat.reduceEqDiff, Nat.reduceAdd, Nat.zero_add, not_false_eq_true, not_true_eq_false, t30, t29]
      refine condK_dec (fun hd => ?_) (fun hd => ?_)
      · have hi1 : i < l.length := by omega
        obtain ⟨y, hy⟩ : ∃ y, l[i]? = some y := ⟨_, List.getElem?_eq_getElem hi1⟩
        have IX := (S5.ix hy).1
        have LX := (S5.ix hy).2
        have wi : IntKind.i64.wrap ((i : Int) + 1) = ((i + 1 : Nat) : Int) := by rw [IntWalk.i64_in _ (by omega)]; omega
        by_cases c1 : y = 93 ∧ 0 < i
        · have d1 := decide_eq_true c1.1
          have d2 : decide (0 < (i : Int)) = true := decide_eq_true (by omega)
          have d3 : decide ((i : Int) < 0) = false := decide_eq_false (by omega)
          obtain ⟨n, rfl⟩ : ∃ n, i = n + 1 := ⟨i - 1, by omega⟩
          have hfi : findM (l.drop 1) = some n := find_at (by rw [List.getElem?_drop, Nat.add_comm 1 n, hy, c1.1]) (fun j hj => by rw [List.getElem?_drop]; exact hno _ (by omega) (by omega))
          have SL := (S5.lo (k := n + 2) (by omega)).1
          have SL2 := (S5.lo (k := n + 2) (by omega)).2
          have wi2 : IntKind.i64.wrap (((n + 1 : Nat) : Int) + 1) = ((n + 2 : Nat) : Int) := by rw [IntWalk.i64_in _ (by omega)]; omega
          have hVr : Var h4 rb [rv, .int .i64 g, .int .i64 o] := Keeps.var H K4 V
          obtain ⟨h7, e7, V7, C7, z7⟩ := hVr.store1 (P := prog) (t := 22) (v := sliceV lw 1 (n + 2) l.length) (i := 0) (Ch.wf K4) asz22 (by simp) (Rd.one SL2.1)
          simp only [List.set_cons_zero] at V7
          have hD7 : ∀ b, blkOf lw = some b → ¬ (b = rb) := fun b e f => by rw [B5] at e; have := hb b e; omega
          have S7 := Ch.rd C7 S5 hD7
          have SH := Rd.sliceHi S7 underlying22 asz21 (q' := .i64) (j := ((n + 1 : Nat) : Int)) (by omega) (by omega)
          rw [Int.toNat_natCast] at SH
          have S8 : RdI prog h7 .i32 (sliceV lw 1 0 (n + 1)) (l.take (n + 1)) := by
            have := RdI.part (P := prog) (k := .i32) (show RdI prog h7 .i32 lw l from S7) (L := 0) (H := n + 1) (by omega) (by omega)
            simpa using this
          simp only [wk, wt, wl, ↓reduceIte, Nat.reduceEqDiff, Nat.reduceAdd, Nat.zero_add, not_false_eq_true, not_true_eq_false, t0, t2, t3, t4, t5, t28, t30, IX, LX, d1, d2, d3, wi, pt, wi2, SL, e7, SH]
          have X0 : SetI h h7 rb pb (l.drop (n + 2)) g o true (sliceV lw 1 0 (n + 1)) nilS (l.take (n + 1)) [] := ⟨S8, fun b e => hb b (by rw [sliceV_blk, B5] at e; exact e), ⟨hpl, hpr⟩, Ch.var (Ch.wf K4) C7 V24 (by omega), Ch.var (Ch.wf K4) C7 V4 (by omega), OS.nil, (fun b e => by cases e),
            ⟨_, V7, Ch.rd C7 SL2.1 (fun b e => hD7 b (by rw [sliceV_blk] at e; exact e)), fun b e => hb b (by rw [sliceV_blk, B5] at e; exact e), hpr, by rw [z7]; exact Nat.lt_of_lt_of_le hpl (Ch.le K4)⟩, (K4.mono (D' := Bx rb) fun _ e => e.elim).then C7 fun b e => .inr e, by rw [z7]; exact hz4⟩
          have hM : setM (94 :: l) = setR true l := setM_nt
          have hlt : (l.take (n + 1)).length = n + 1 := by rw [List.length_take]; omega
          have h32' : I32 (l.take (n + 1)) := fun y hy => h32' y (List.mem_of_mem_take hy)
          refine W_loopI (fun k tm hh => tm 0 = pt rb ∧ tm 2 = pt h.size ∧ tm 3 = pt (h.size + 1) ∧ ∃ w sv r acc m, tm 4 = w ∧ SetI h hh rb pb (l.drop (n + 2)) g o true w sv r acc ∧ r.length = k ∧ k < m ∧ acc.length + k ≤ n + 1 ∧ spansM (n + 2) [] (l.take (n + 1)) = spansM m acc r ∧ I32 r)
            ⟨n + 1, (by first | rfl | (simp only [wk, wt, wl, ↓reduceIte, Nat.reduceEqDiff, Nat.reduceAdd, Nat.zero_add, not_false_eq_true, not_true_eq_false]; done) | (simp only [wk, wt, wl, ↓reduceIte, Nat.reduceEqDiff, Nat.reduceAdd, Nat.zero_add, not_false_eq_true, not_true_eq_false]; rfl) | (simp only [wk, wt, wl, ↓reduceIte, Nat.reduceEqDiff, Nat.reduceAdd, Nat.zero_add, not_false_eq_true, not_true_eq_false, t0, pt]; done) | (simp only [wk, wt, wl, ↓reduceIte, Nat.reduceEqDiff, Nat.reduceAdd, Nat.zero_add, not_false_eq_true, not_true_eq_false, t0, pt]; rfl)), (by first | rfl | (simp only [wk, wt, wl, ↓reduceIte, Nat.reduceEqDiff, Nat.reduceAdd, Nat.zero_add, not_false_eq_true, not_true_eq_false]; done) | (simp only [wk, wt, wl, ↓reduceIte, Nat.reduceEqDiff, Nat.reduceAdd, Nat.zero_add, not_false_eq_true, not_true_eq_false]; rfl) | (simp only [wk, wt, wl, ↓reduceIte, Nat.reduceEqDiff, Nat.reduceAdd, Nat.zero_add, not_false_eq_true, not_true_eq_false, t2, pt]; done) | (simp only [wk, wt, wl, ↓reduceIte, Nat.reduceEqDiff, Nat.reduceAdd, Nat.zero_add, not_false_eq_true, not_true_eq_false, t2, pt]; rfl)), (by first | rfl | (simp only [wk, wt, wl, ↓reduceIte, Nat.reduceEqDiff, Nat.reduceAdd, Nat.zero_add, not_false_eq_true, not_true_eq_false]; done) | (simp only [wk, wt, wl, ↓reduceIte, Nat.reduceEqDiff, Nat.reduceAdd, Nat.zero_add, not_false_eq_true, not_true_eq_false]; rfl) | (simp only [wk, wt, wl, ↓reduceIte, Nat.reduceEqDiff, Nat.reduceAdd, Nat.zero_add, not_false_eq_true, not_true_eq_false, t3, pt]; done) | (simp only [wk, wt, wl, ↓reduceIte, Nat.reduceEqDiff, Nat.reduceAdd, Nat.zero_add, not_false_eq_true, not_true_eq_false, t3, pt]; rfl)), _, _, _, _, n + 2, (by first | rfl | (simp only [wk, wt, wl, ↓reduceIte, Nat.reduceEqDiff, Nat.reduceAdd, Nat.zero_add, not_false_eq_true, not_true_eq_false]; done) | (simp only [wk, wt, wl, ↓reduceIte, Nat.reduceEqDiff, Nat.reduceAdd, Nat.zero_add, not_false_eq_true, not_true_eq_false]; rfl)), X0, hlt, by omega, by simp, rfl, h32'⟩ ?_
          clear t0 t2 t3 t4 t5 t28 t29 t30 X0 S7 S8 SH
          rintro k tm hh ⟨t0, t2, t3, w, sv, r, acc, m, t4, X, hk, hn, hL, hg, h32⟩
          obtain ⟨m, rfl⟩ : ∃ q, m = q + 1 := ⟨m - 1, by omega⟩
          rcases r with _ | ⟨x, r⟩
          · have LN := X.S.ln (n := 0) rfl
            have d0 : decide ((0 : Int) < 0) = false := rfl
            have o1 : one sv = true := Rd.one X.O.1
            obtain ⟨h9, e9, V9, C9, z9⟩ := X.V2.put (Ch.wf X.C) (d := setC sv true) o1 rfl
            simp only [wk, wt, wl, ↓reduceIte, Nat.reduceEqDiff, Nat.reduceAdd, Nat.zero_add, not_false_eq_true, not_true_eq_false, t0, t2, t3, t4, LN, d0, pt, X.V3.re, e9, V9.re]
            have hC9 : Ch (Bx rb) h h9 := X.C.then C9 fun b e => .inl (by omega)
            refine ⟨pS acc true, l.drop (n + 2), setC sv true, ?_, rfl, ReR.set (Ch.rd C9 X.O.1 fun b e => by have := X.hs b e; omega) (fun b e f => ?_), X.R.ch (Ch.wf X.C) C9 (by omega) (by omega), hC9⟩
            · rw [hM]; unfold setR; rw [hfi]; simp only; rw [hg]; rfl
            · have := X.hs b e; have : b < h.size := f; omega
          · have LN := X.S.ln (n := (r.length : Int) + 1) (by simp)
            have d0 : decide (0 < (r.length : Int) + 1) = true := decide_eq_true (by omega)
            have IX : aindexAddr prog 22 w (.int .i64 0) = _ := (X.S.ix (i := 0) rfl).1
            have LX := (X.S.ix (i := 0) rfl).2
            have hx := h32 x (by simp)
            have cvx := cv32 hx.1 hx.2
            have Hh := Ch.wf X.C
            have N1 := Keeps.new Hh 50 [.int .i64 0, .int .i64 0]
            obtain ⟨h4, e4, V4, C4, z4⟩ := (Var.new (e := 50) Hh (cs := [.int .i64 0, .int .i64 0])).store (P := prog) (t := 50) (v := .agg #[.int .i64 x, .int .i64 x]) (i := 0) (Ch.wf N1) asz50 (by simp [Value.cells]) (by simp [Value.cells, one])
            have V4' : Var h4 hh.size [.int .i64 x, .int .i64 x] := V4
            have K4 := N1.step C4 fun b e => by omega
            have X4 := X.keeps H K4
            have L0 := fun {hq : Heap} {a b : Int} (V : Var hq hh.size [.int .i64 a, .int .i64 b]) => V.load1 (P := prog) (t := 3) underlying3 rfl (i := 0)
            have L1 := fun {hq : Heap} {a b : Int} (V : Var hq hh.size [.int .i64 a, .int .i64 b]) => V.load1 (P := prog) (t := 3) underlying3 rfl (i := 1)
            simp only [List.getElem?_cons_succ, List.getElem?_cons_zero] at L0 L1
            simp only [wk, wt, wl, ↓reduceIte, Nat.reduceEqDiff, Nat.reduceAdd, Nat.zero_add, not_false_eq_true, not_true_eq_false, t0, t2, t3, t4, LN, d0, pt]
            refine adraw_order [(0, false), (1, false), (2, false), (3, false), (4, false), (5, false), (6, false), (7, false), (8, false), (9, true), (10, false), (11, false)] mixed (by kernel_rfl) (by kernel_rfl) (by kernel_rfl) (by with_reducible repeat (first | exact PF_retK | refine PF_thenK ?_ | refine PF_blockK ?_)) ?_
            simp only [wk, wt, wl, ↓reduceIte, Nat.reduceEqDiff, Nat.reduceAdd, Nat.zero_add, not_false_eq_true, not_true_eq_false, dK_t, t0, t2, t3, t4, IX, LX, cvx, build_sp, e4]
            refine ⟨N1.reads Hh, ?_⟩
            have LN4 := X4.S.ln (n := (r.length : Int) + 1) (by simp)
            rcases r with _ | ⟨y, _ | ⟨z, r⟩⟩
            · have d5 : decide (2 < ((([] : List Int).length : Nat) : Int) + 1) = false := rfl
              have hg1 := hg.trans (spans_one (fun z u e => by cases e))
              simp only [wk, wt, wl, ↓reduceIte, Nat.reduceEqDiff, Nat.reduceAdd, Nat.zero_add, not_false_eq_true, not_true_eq_false, t0, t2, t3, t4, pt, LN4, d5]
              have d9 := L1 V4'
              have d8 := L0 V4'
              by_cases c9 : x < x
              · have e9 := decide_eq_true c9
                rw [if_pos c9] at hg1
                simp only [wk, wt, wl, ↓reduceIte, Nat.reduceEqDiff, Nat.reduceAdd, Nat.zero_add, not_false_eq_true, not_true_eq_false, t0, t2, t3, t4, d9, d8, e9, build_fault, conc_fault]
                exact ⟨5, by rw [hM]; unfold setR; rw [hfi]; simp only; rw [hg1], rfl, X4.C⟩
              · have e9 := decide_eq_false c9
                rw [if_neg c9] at hg1
                obtain ⟨v8, h8, h9, q1, q2, q3, X9⟩ := X4.push H hrl (x, x) (by omega) (k := 1) (by simp)
                have q3' : aslice prog h9 22 w (some (.int .i64 1)) none none = some (sliceV w 1 1 _) := q3
                have q1' : aappend prog (h4.new 50 [.int .i64 x, .int .i64 x]) 23 23 sv (.slice (some ⟨h4.size, 0, none⟩) 1 2) = some (v8, h8) := q1
                have LA := V4'.loadA (P := prog) (t := 50) underlying50 rfl asz50
                have LF := X4.V3.load1 (P := prog) (t := 23) underlying23 rfl (i := 2)
                simp only [reC, setC, List.getElem?_cons_succ, List.getElem?_cons_zero] at LF
                simp only [wk, wt, wl, ↓reduceIte, Nat.reduceEqDiff, Nat.reduceAdd, Nat.zero_add, not_false_eq_true, not_true_eq_false, t0, t2, t3, t4, pt, d9, d8, e9, LF, LA, bsSp, q1', q2, q3']
                simp only [List.length_cons, List.length_nil] at hk hn hL
                exact ⟨([]).length, by (try simp only [List.length_cons, List.length_nil]); omega, _, v8, _, _, m, rfl, X9, rfl, by (try simp only [List.length_cons, List.length_nil]); omega, by (try simp only [List.length_cons, List.length_nil, List.length_append]); omega, hg1, fun y hy => h32 y (List.mem_of_mem_drop (i := 1) hy)⟩
            · have d5 : decide (2 < (([y].length : Nat) : Int) + 1) = false := rfl
              have hg1 := hg.trans (spans_one (fun z u e => by cases e))
              simp only [wk, wt, wl, ↓reduceIte, Nat.reduceEqDiff, Nat.reduceAdd, Nat.zero_add, not_false_eq_true, not_true_eq_false, t0, t2, t3, t4, pt, LN4, d5]
              have d9 := L1 V4'
              have d8 := L0 V4'
              by_cases c9 : x < x
              · have e9 := decide_eq_true c9
                rw [if_pos c9] at hg1
                simp only [wk, wt, wl, ↓reduceIte, Nat.reduceEqDiff, Nat.reduceAdd, Nat.zero_add, not_false_eq_true, not_true_eq_false, t0, t2, t3, t4, d9, d8, e9, build_fault, conc_fault]
                exact ⟨5, by rw [hM]; unfold setR; rw [hfi]; simp only; rw [hg1], rfl, X4.C⟩
              · have e9 := decide_eq_false c9
                rw [if_neg c9] at hg1
                obtain ⟨v8, h8, h9, q1, q2, q3, X9⟩ := X4.push H hrl (x, x) (by omega) (k := 1) (by simp)
                have q3' : aslice prog h9 22 w (some (.int .i64 1)) none none = some (sliceV w 1 1 _) := q3
                have q1' : aappend prog (h4.new 50 [.int .i64 x, .int .i64 x]) 23 23 sv (.slice (some ⟨h4.size, 0, none⟩) 1 2) = some (v8, h8) := q1
                have LA := V4'.loadA (P := prog) (t := 50) underlying50 rfl asz50
                have LF := X4.V3.load1 (P := prog) (t := 23) underlying23 rfl (i := 2)
                simp only [reC, setC, List.getElem?_cons_succ, List.getElem?_cons_zero] at LF
                simp only [wk, wt, wl, ↓reduceIte, Nat.reduceEqDiff, Nat.reduceAdd, Nat.zero_add, not_false_eq_true, not_true_eq_false, t0, t2, t3, t4, pt, d9, d8, e9, LF, LA, bsSp, q1', q2, q3']
                simp only [List.length_cons, List.length_nil] at hk hn hL
                exact ⟨([y]).length, by (try simp only [List.length_cons, List.length_nil]); omega, _, v8, _, _, m, rfl, X9, rfl, by (try simp only [List.length_cons, List.length_nil]); omega, by (try simp only [List.length_cons, List.length_nil, List.length_append]); omega, hg1, fun y hy => h32 y (List.mem_of_mem_drop (i := 1) hy)⟩
            · have d5 : decide (2 < (((y :: z :: r).length : Nat) : Int) + 1) = true := decide_eq_true (by simp; omega)
              have IY : aindexAddr prog 22 w (.int .i64 1) = _ := (X4.S.ix (i := 1) rfl).1
              have LY := (X4.S.ix (i := 1) rfl).2
              by_cases c6 : y = 45
              · have d6 := decide_eq_true c6
                subst c6
                have hg1 := hg.trans spans_two
                have IZ : aindexAddr prog 22 w (.int .i64 2) = _ := (X4.S.ix (i := 2) rfl).1
                have LZ := (X4.S.ix (i := 2) rfl).2
                have hz := h32 z (by simp)
                have cvz := cv32 hz.1 hz.2
                obtain ⟨h5, e5, V5, C5, z5⟩ := V4'.store1 (P := prog) (t := 3) (v := .int .i64 z) (i := 1) (Ch.wf K4) asz3 (by simp) rfl
                simp only [List.set_cons_succ, List.set_cons_zero] at V5
                have K5 := K4.step C5 fun b e => by omega
                have X5 := X.keeps H K5
                simp only [wk, wt, wl, ↓reduceIte, Nat.reduceEqDiff, Nat.reduceAdd, Nat.zero_add, not_false_eq_true, not_true_eq_false, t0, t2, t3, t4, pt, LN4, d5, IY, LY, d6, IZ, LZ, cvz, e5]
                have d9 := L1 V5
                have d8 := L0 V5
                by_cases c9 : z < x
                · have e9 := decide_eq_true c9
                  rw [if_pos c9] at hg1
                  simp only [wk, wt, wl, ↓reduceIte, Nat.reduceEqDiff, Nat.reduceAdd, Nat.zero_add, not_false_eq_true, not_true_eq_false, t0, t2, t3, t4, d9, d8, e9, build_fault, conc_fault]
                  exact ⟨5, by rw [hM]; unfold setR; rw [hfi]; simp only; rw [hg1], rfl, X5.C⟩
                · have e9 := decide_eq_false c9
                  rw [if_neg c9] at hg1
                  obtain ⟨v8, h8, h9, q1, q2, q3, X9⟩ := X5.push H hrl (x, z) (by omega) (k := 3) (by simp)
                  have q3' : aslice prog h9 22 w (some (.int .i64 3)) none none = some (sliceV w 1 3 _) := q3
                  have q1' : aappend prog (h5.new 50 [.int .i64 x, .int .i64 z]) 23 23 sv (.slice (some ⟨h5.size, 0, none⟩) 1 2) = some (v8, h8) := q1
                  have LA := V5.loadA (P := prog) (t := 50) underlying50 rfl asz50
                  have LF := X5.V3.load1 (P := prog) (t := 23) underlying23 rfl (i := 2)
                  simp only [reC, setC, List.getElem?_cons_succ, List.getElem?_cons_zero] at LF
                  simp only [wk, wt, wl, ↓reduceIte, Nat.reduceEqDiff, Nat.reduceAdd, Nat.zero_add, not_false_eq_true, not_true_eq_false, t0, t2, t3, t4, pt, d9, d8, e9, LF, LA, bsSp, q1', q2, q3']
                  simp only [List.length_cons, List.length_nil] at hk hn hL
                  exact ⟨(r).length, by (try simp only [List.length_cons, List.length_nil]); omega, _, v8, _, _, m, rfl, X9, rfl, by (try simp only [List.length_cons, List.length_nil]); omega, by (try simp only [List.length_cons, List.length_nil, List.length_append]); omega, hg1, fun y hy => h32 y (List.mem_of_mem_drop (i := 3) hy)⟩
              · have d6 := decide_eq_false c6
                have hg1 := hg.trans (spans_one (fun z' u e => by cases e; exact c6 rfl))
                simp only [wk, wt, wl, ↓reduceIte, Nat.reduceEqDiff, Nat.reduceAdd, Nat.zero_add, not_false_eq_true, not_true_eq_false, t0, t2, t3, t4, pt, LN4, d5, IY, LY, d6]
                have d9 := L1 V4'
                have d8 := L0 V4'
                by_cases c9 : x < x
                · have e9 := decide_eq_true c9
                  rw [if_pos c9] at hg1
                  simp only [wk, wt, wl, ↓reduceIte, Nat.reduceEqDiff, Nat.reduceAdd, Nat.zero_add, not_false_eq_true, not_true_eq_false, t0, t2, t3, t4, d9, d8, e9, build_fault, conc_fault]
                  exact ⟨5, by rw [hM]; unfold setR; rw [hfi]; simp only; rw [hg1], rfl, X4.C⟩
                · have e9 := decide_eq_false c9
                  rw [if_neg c9] at hg1
                  obtain ⟨v8, h8, h9, q1, q2, q3, X9⟩ := X4.push H hrl (x, x) (by omega) (k := 1) (by simp)
                  have q3' : aslice prog h9 22 w (some (.int .i64 1)) none none = some (sliceV w 1 1 _) := q3
                  have q1' : aappend prog (h4.new 50 [.int .i64 x, .int .i64 x]) 23 23 sv (.slice (some ⟨h4.size, 0, none⟩) 1 2) = some (v8, h8) := q1
                  have LA := V4'.loadA (P := prog) (t := 50) underlying50 rfl asz50
                  have LF := X4.V3.load1 (P := prog) (t := 23) underlying23 rfl (i := 2)
                  simp only [reC, setC, List.getElem?_cons_succ, List.getElem?_cons_zero] at LF
                  simp only [wk, wt, wl, ↓reduceIte, Nat.reduceEqDiff, Nat.reduceAdd, Nat.zero_add, not_false_eq_true, not_true_eq_false, t0, t2, t3, t4, pt, d9, d8, e9, LF, LA, bsSp, q1', q2, q3']
                  simp only [List.length_cons, List.length_nil] at hk hn hL
                  exact ⟨(y :: z :: r).length, by (try simp only [List.length_cons, List.length_nil]); omega, _, v8, _, _, m, rfl, X9, rfl, by (try simp only [List.length_cons, List.length_nil]); omega, by (try simp only [List.length_cons, List.length_nil, List.length_append]); omega, hg1, fun y hy => h32 y (List.mem_of_mem_drop (i := 1) hy)⟩
        · have nx : ∀ j, 1 ≤ j → j < i + 1 → l[j]? ≠ some 93 := fun j h1 h2 => by
            rcases Nat.lt_or_eq_of_le (Nat.lt_succ_iff.1 h2) with e | rfl
            · exact hno j h1 e
            · rw [hy]; intro e; cases e; exact c1 ⟨rfl, by omega⟩
          by_cases c2 : y = 93
          · have d1 := decide_eq_true c2
            have d2 : decide (0 < (i : Int)) = false := decide_eq_false (fun e => c1 ⟨c2, by omega⟩)
            simp only [wk, wt, wl, ↓reduceIte, Nat.reduceEqDiff, Nat.reduceAdd, Nat.zero_add, not_false_eq_true, not_true_eq_false, t0, t2, t3, t4, t5, t28, t29, t30, IX, LX, d1, d2, wi, intOf_int]
            exact ⟨⟨i + 1, rfl, by omega, nx⟩, by omega⟩
          · have d1 := decide_eq_false c2
            simp only [wk, wt, wl, ↓reduceIte, Nat.reduceEqDiff, Nat.reduceAdd, Nat.zero_add, not_false_eq_true, not_true_eq_false, t0, t2, t3, t4, t5, t28, t29, t30, IX, LX, d1, wi, intOf_int]
            exact ⟨⟨i + 1, rfl, by omega, nx⟩, by omega⟩
      · have d3 : decide ((-1 : Int) < 0) = true := rfl
        have hM : setM (94 :: l) = setR true l := setM_nt
        have hfi : findM (l.drop 1) = none := find_none fun j e => by
          rw [List.getElem?_drop] at e
          have := (List.getElem?_eq_some_iff.1 e).1
          exact hno _ (by omega) (by omega) e
        simp only [wk, wt, wl, ↓reduceIte, Nat.reduceEqDiff, Nat.reduceAdd, Nat.zero_add, not_false_eq_true, not_true_eq_false, t5, d3, build_fault, conc_fault]
        exact ⟨10, by rw [hM]; unfold setR; rw [hfi], rfl, K4.mono fun _ e => e.elim⟩
    · have d5 := decide_eq_false ca
      simp only [wk, wt, wl, ↓reduceIte, Nat.reduceEqDiff, Nat.reduceAdd, Nat.zero_add, not_false_eq_true, not_true_eq_false, pt, newRe, newSz, bk, e3, LD0, SL, LN4, d4, IA, LA, d5]
      have LNL := S4.ln (n := ((a :: l).length : Int)) rfl
      refine W_loop (fun tm h' => h3 = h' ∧ tm 0 = pt rb ∧ tm 2 = pt h.size ∧ tm 3 = pt (h.size + 1) ∧ tm 4 = lv ∧ tm 5 = .int .i64 (-1) ∧ tm 28 = lv ∧ tm 29 = .int .i64 ((a :: l).length : Int) ∧ ∃ i : Nat, tm 30 = .int .i64 (i : Int) ∧ i ≤ (a :: l).length ∧ ∀ j, 1 ≤ j → j < i → (a :: l)[j]? ≠ some 93)
        (fun tm _ => ((a :: l).length - intOf (tm 30)).toNat) ⟨rfl, (by first | rfl | (simp only [wk, wt, wl, ↓reduceIte, Nat.reduceEqDiff, Nat.reduceAdd, Nat.zero_add, not_false_eq_true, not_true_eq_false]; done) | (simp only [wk, wt, wl, ↓reduceIte, Nat.reduceEqDiff, Nat.reduceAdd, Nat.zero_add, not_false_eq_true, not_true_eq_false]; rfl) | (simp only [wk, wt, wl, ↓reduceIte, Nat.reduceEqDiff, Nat.reduceAdd, Nat.zero_add, not_false_eq_true, not_true_eq_false, pt]; done) | (simp only [wk, wt, wl, ↓reduceIte, Nat.reduceEqDiff, Nat.reduceAdd, Nat.zero_add, not_false_eq_true, not_true_eq_false, pt]; rfl)), (by first | rfl | (simp only [wk, wt, wl, ↓reduceIte, Nat.reduceEqDiff, Nat.reduceAdd, Nat.zero_add, not_false_eq_true, not_true_eq_false]; done) | (simp only [wk, wt, wl, ↓reduceIte, Nat.reduceEqDiff, Nat.reduceAdd, Nat.zero_add, not_false_eq_true, not_true_eq_false]; rfl) | (simp only [wk, wt, wl, ↓reduceIte, Nat.reduceEqDiff, Nat.reduceAdd, Nat.zero_add, not_false_eq_true, not_true_eq_false, pt]; done) | (simp only [wk, wt, wl, ↓reduceIte, Nat.reduceEqDiff, Nat.reduceAdd, Nat.zero_add, not_false_eq_true, not_true_eq_false, pt]; rfl)), (by first | rfl | (simp only [wk, wt, wl, ↓reduceIte, Nat.reduceEqDiff, Nat.reduceAdd, Nat.zero_add, not_false_eq_true, not_true_eq_false]; done) | (simp only [wk, wt, wl, ↓reduceIte, Nat.reduceEqDiff, Nat.reduceAdd, Nat.zero_add, not_false_eq_true, not_true_eq_false]; rfl) | (simp only [wk, wt, wl, ↓reduceIte, Nat.reduceEqDiff, Nat.reduceAdd, Nat.zero_add, not_false_eq_true, not_true_eq_false, pt]; done) | (simp only [wk, wt, wl, ↓reduceIte, Nat.reduceEqDiff, Nat.reduceAdd, Nat.zero_add, not_false_eq_true, not_true_eq_false, pt]; rfl)), (by first | rfl | (simp only [wk, wt, wl, ↓reduceIte, Nat.reduceEqDiff, Nat.reduceAdd, Nat.zero_add, not_false_eq_true, not_true_eq_false]; done) | (simp only [wk, wt, wl, ↓reduceIte, Nat.reduceEqDiff, Nat.reduceAdd, Nat.zero_add, not_false_eq_true, not_true_eq_false]; rfl) | (simp only [wk, wt, wl, ↓reduceIte, Nat.reduceEqDiff, Nat.reduceAdd, Nat.zero_add, not_false_eq_true, not_true_eq_false, pt]; done) | (simp only [wk, wt, wl, ↓reduceIte, Nat.reduceEqDiff, Nat.reduceAdd, Nat.zero_add, not_false_eq_true, not_true_eq_false, pt]; rfl)), (by first | rfl | (simp only [wk, wt, wl, ↓reduceIte, Nat.reduceEqDiff, Nat.reduceAdd, Nat.zero_add, not_false_eq_true, not_true_eq_false]; done) | (simp only [wk, wt, wl, ↓reduceIte, Nat.reduceEqDiff, Nat.reduceAdd, Nat.zero_add, not_false_eq_true, not_true_eq_false]; rfl) | (simp only [wk, wt, wl, ↓reduceIte, Nat.reduceEqDiff, Nat.reduceAdd, Nat.zero_add, not_false_eq_true, not_true_eq_false, pt]; done) | (simp only [wk, wt, wl, ↓reduceIte, Nat.reduceEqDiff, Nat.reduceAdd, Nat.zero_add, not_false_eq_true, not_true_eq_false, pt]; rfl)), (by first | rfl | (simp only [wk, wt, wl, ↓reduceIte, Nat.reduceEqDiff, Nat.reduceAdd, Nat.zero_add, not_false_eq_true, not_true_eq_false]; done) | (simp only [wk, wt, wl, ↓reduceIte, Nat.reduceEqDiff, Nat.reduceAdd, Nat.zero_add, not_false_eq_true, not_true_eq_false]; rfl) | (simp only [wk, wt, wl, ↓reduceIte, Nat.reduceEqDiff, Nat.reduceAdd, Nat.zero_add, not_false_eq_true, not_true_eq_false, pt]; done) | (simp only [wk, wt, wl, ↓reduceIte, Nat.reduceEqDiff, Nat.reduceAdd, Nat.zero_add, not_false_eq_true, not_true_eq_false, pt]; rfl)), (by first | rfl | (simp only [wk, wt, wl, ↓reduceIte, Nat.reduceEqDiff, Nat.reduceAdd, Nat.zero_add, not_false_eq_true, not_true_eq_false]; done) | (simp only [wk, wt, wl, ↓reduceIte, Nat.reduceEqDiff, Nat.reduceAdd, Nat.zero_add, not_false_eq_true, not_true_eq_false]; rfl) | (simp only [wk, wt, wl, ↓reduceIte, Nat.reduceEqDiff, Nat.reduceAdd, Nat.zero_add, not_false_eq_true, not_true_eq_false, pt]; done) | (simp only [wk, wt, wl, ↓reduceIte, Nat.reduceEqDiff, Nat.reduceAdd, Nat.zero_add, not_false_eq_true, not_true_eq_false, pt]; rfl)), 0, (by first | rfl | (simp only [wk, wt, wl, ↓reduceIte, Nat.reduceEqDiff, Nat.reduceAdd, Nat.zero_add, not_false_eq_true, not_true_eq_false]; done) | (simp only [wk, wt, wl, ↓reduceIte, Nat.reduceEqDiff, Nat.reduceAdd, Nat.zero_add, not_false_eq_true, not_true_eq_false]; rfl)), by omega, fun j h1 h2 => by omega⟩ ?_
      rintro tm _ ⟨rfl, t0, t2, t3, t4, t5, t28, t29, i, t30, hi, hno⟩
      simp only [wk, wt, wl, ↓reduceIte, Nat.reduceEqDiff, Nat.reduceAdd, Nat.zero_add, not_false_eq_true, not_true_eq_false, t30, t29]
      refine condK_dec (fun hd => ?_) (fun hd => ?_)
      · have hi1 : i < (a :: l).length := by omega
        obtain ⟨y, hy⟩ : ∃ y, (a :: l)[i]? = some y := ⟨_, List.getElem?_eq_getElem hi1⟩
        have IX := (S4.ix hy).1
        have LX := (S4.ix hy).2
        have wi : IntKind.i64.wrap ((i : Int) + 1) = ((i + 1 : Nat) : Int) := by rw [IntWalk.i64_in _ (by omega)]; omega
        by_cases c1 : y = 93 ∧ 0 < i
        · have d1 := decide_eq_true c1.1
          have d2 : decide (0 < (i : Int)) = true := decide_eq_true (by omega)
          have d3 : decide ((i : Int) < 0) = false := decide_eq_false (by omega)
          obtain ⟨n, rfl⟩ : ∃ n, i = n + 1 := ⟨i - 1, by omega⟩
          have hfi : findM ((a :: l).drop 1) = some n := find_at (by rw [List.getElem?_drop, Nat.add_comm 1 n, hy, c1.1]) (fun j hj => by rw [List.getElem?_drop]; exact hno _ (by omega) (by omega))
          have SL := (S4.lo (k := n + 2) (by omega)).1
          have SL2 := (S4.lo (k := n + 2) (by omega)).2
          have wi2 : IntKind.i64.wrap (((n + 1 : Nat) : Int) + 1) = ((n + 2 : Nat) : Int) := by rw [IntWalk.i64_in _ (by omega)]; omega
          have hVr : Var h3 rb [rv, .int .i64 g, .int .i64 o] := Keeps.var H K3 V
          obtain ⟨h7, e7, V7, C7, z7⟩ := hVr.store1 (P := prog) (t := 22) (v := sliceV lv 1 (n + 2) (a :: l).length) (i := 0) (Ch.wf K3) asz22 (by simp) (Rd.one SL2.1)
          simp only [List.set_cons_zero] at V7
          have hD7 : ∀ b, blkOf lv = some b → ¬ (b = rb) := fun b e f => by rw [B4] at e; have := hb b e; omega
          have S7 := Ch.rd C7 S4 hD7
          have SH := Rd.sliceHi S7 underlying22 asz21 (q' := .i64) (j := ((n + 1 : Nat) : Int)) (by omega) (by omega)
          rw [Int.toNat_natCast] at SH
          have S8 : RdI prog h7 .i32 (sliceV lv 1 0 (n + 1)) ((a :: l).take (n + 1)) := by
            have := RdI.part (P := prog) (k := .i32) (show RdI prog h7 .i32 lv (a :: l) from S7) (L := 0) (H := n + 1) (by omega) (by omega)
            simpa using this
          simp only [wk, wt, wl, ↓reduceIte, Nat.reduceEqDiff, Nat.reduceAdd, Nat.zero_add, not_false_eq_true, not_true_eq_false, t0, t2, t3, t4, t5, t28, t30, IX, LX, d1, d2, d3, wi, pt, wi2, SL, e7, SH]
          have X0 : SetI h h7 rb pb ((a :: l).drop (n + 2)) g o false (sliceV lv 1 0 (n + 1)) nilS ((a :: l).take (n + 1)) [] := ⟨S8, fun b e => hb b (by rw [sliceV_blk, B4] at e; exact e), ⟨hpl, hpr⟩, Ch.var (Ch.wf K3) C7 V23 (by omega), Ch.var (Ch.wf K3) C7 V3' (by omega), OS.nil, (fun b e => by cases e),
            ⟨_, V7, Ch.rd C7 SL2.1 (fun b e => hD7 b (by rw [sliceV_blk] at e; exact e)), fun b e => hb b (by rw [sliceV_blk, B4] at e; exact e), hpr, by rw [z7]; exact Nat.lt_of_lt_of_le hpl (Ch.le K3)⟩, (K3.mono (D' := Bx rb) fun _ e => e.elim).then C7 fun b e => .inr e, by rw [z7]; exact hz3⟩
          have hM : setM (a :: l) = setR false (a :: l) := (setM_no (by simp [ca]))
          have hlt : ((a :: l).take (n + 1)).length = n + 1 := by rw [List.length_take]; omega
          have h32' : I32 ((a :: l).take (n + 1)) := fun y hy => h32 y (List.mem_of_mem_take hy)
          refine W_loopI (fun k tm hh => tm 0 = pt rb ∧ tm 2 = pt h.size ∧ tm 3 = pt (h.size + 1) ∧ ∃ w sv r acc m, tm 4 = w ∧ SetI h hh rb pb ((a :: l).drop (n + 2)) g o false w sv r acc ∧ r.length = k ∧ k < m ∧ acc.length + k ≤ n + 1 ∧ spansM (n + 2) [] ((a :: l).take (n + 1)) = spansM m acc r ∧ I32 r)
            ⟨n + 1, (by first | rfl | (simp only [wk, wt, wl, ↓reduceIte, Nat.reduceEqDiff, Nat.reduceAdd, Nat.zero_add, not_false_eq_true, not_true_eq_false]; done) | (simp only [wk, wt, wl, ↓reduceIte, Nat.reduceEqDiff, Nat.reduceAdd, Nat.zero_add, not_false_eq_true, not_true_eq_false]; rfl) | (simp only [wk, wt, wl, ↓reduceIte, Nat.reduceEqDiff, Nat.reduceAdd, Nat.zero_add, not_false_eq_true, not_true_eq_false, t0, pt]; done) | (simp only [wk, wt, wl, ↓reduceIte, Nat.reduceEqDiff, Nat.reduceAdd, Nat.zero_add, not_false_eq_true, not_true_eq_false, t0, pt]; rfl)), (by first | rfl | (simp only [wk, wt, wl, ↓reduceIte, Nat.reduceEqDiff, Nat.reduceAdd, Nat.zero_add, not_false_eq_true, not_true_eq_false]; done) | (simp only [wk, wt, wl, ↓reduceIte, Nat.reduceEqDiff, Nat.reduceAdd, Nat.zero_add, not_false_eq_true, not_true_eq_false]; rfl) | (simp only [wk, wt, wl, ↓reduceIte, Nat.reduceEqDiff, Nat.reduceAdd, Nat.zero_add, not_false_eq_true, not_true_eq_false, t2, pt]; done) | (simp only [wk, wt, wl, ↓reduceIte, Nat.reduceEqDiff, Nat.reduceAdd, Nat.zero_add, not_false_eq_true, not_true_eq_false, t2, pt]; rfl)), (by first | rfl | (simp only [wk, wt, wl, ↓reduceIte, Nat.reduceEqDiff, Nat.reduceAdd, Nat.zero_add, not_false_eq_true, not_true_eq_false]; done) | (simp only [wk, wt, wl, ↓reduceIte, Nat.reduceEqDiff, Nat.reduceAdd, Nat.zero_add, not_false_eq_true, not_true_eq_false]; rfl) | (simp only [wk, wt, wl, ↓reduceIte, Nat.reduceEqDiff, Nat.reduceAdd, Nat.zero_add, not_false_eq_true, not_true_eq_false, t3, pt]; done) | (simp only [wk, wt, wl, ↓reduceIte, Nat.reduceEqDiff, Nat.reduceAdd, Nat.zero_add, not_false_eq_true, not_true_eq_false, t3, pt]; rfl)), _, _, _, _, n + 2, (by first | rfl | (simp only [wk, wt, wl, ↓reduceIte, Nat.reduceEqDiff, Nat.reduceAdd, Nat.zero_add, not_false_eq_true, not_true_eq_false]; done) | (simp only [wk, wt, wl, ↓reduceIte, Nat.reduceEqDiff, Nat.reduceAdd, Nat.zero_add, not_false_eq_true, not_true_eq_false]; rfl)), X0, hlt, by omega, by simp, rfl, h32'⟩ ?_
          clear t0 t2 t3 t4 t5 t28 t29 t30 X0 S7 S8 SH
          rintro k tm hh ⟨t0, t2, t3, w, sv, r, acc, m, t4, X, hk, hn, hL, hg, h32⟩
          obtain ⟨m, rfl⟩ : ∃ q, m = q + 1 := ⟨m - 1, by omega⟩
          rcases r with _ | ⟨x, r⟩
          · have LN := X.S.ln (n := 0) rfl
            have d0 : decide ((0 : Int) < 0) = false := rfl
            have o1 : one sv = true := Rd.one X.O.1
            obtain ⟨h9, e9, V9, C9, z9⟩ := X.V2.put (Ch.wf X.C) (d := setC sv false) o1 rfl
            simp only [wk, wt, wl, ↓reduceIte, Nat.reduceEqDiff, Nat.reduceAdd, Nat.zero_add, not_false_eq_true, not_true_eq_false, t0, t2, t3, t4, LN, d0, pt, X.V3.re, e9, V9.re]
            have hC9 : Ch (Bx rb) h h9 := X.C.then C9 fun b e => .inl (by omega)
            refine ⟨pS acc false, (a :: l).drop (n + 2), setC sv false, ?_, rfl, ReR.set (Ch.rd C9 X.O.1 fun b e => by have := X.hs b e; omega) (fun b e f => ?_), X.R.ch (Ch.wf X.C) C9 (by omega) (by omega), hC9⟩
            · rw [hM]; unfold setR; rw [hfi]; simp only; rw [hg]; rfl
            · have := X.hs b e; have : b < h.size := f; omega
          · have LN := X.S.ln (n := (r.length : Int) + 1) (by simp)
            have d0 : decide (0 < (r.length : Int) + 1) = true := decide_eq_true (by omega)
            have IX : aindexAddr prog 22 w (.int .i64 0) = _ := (X.S.ix (i := 0) rfl).1
            have LX := (X.S.ix (i := 0) rfl).2
            have hx := h32 x (by simp)
            have cvx := cv32 hx.1 hx.2
            have Hh := Ch.wf X.C
            have N1 := Keeps.new Hh 50 [.int .i64 0, .int .i64 0]
            obtain ⟨h4, e4, V4, C4, z4⟩ := (Var.new (e := 50) Hh (cs := [.int .i64 0, .int .i64 0])).store (P := prog) (t := 50) (v := .agg #[.int .i64 x, .int .i64 x]) (i := 0) (Ch.wf N1) asz50 (by simp [Value.cells]) (by simp [Value.cells, one])
            have V4' : Var h4 hh.size [.int .i64 x, .int .i64 x] := V4
            have K4 := N1.step C4 fun b e => by omega
            have X4 := X.keeps H K4
            have L0 := fun {hq : Heap} {a b : Int} (V : Var hq hh.size [.int .i64 a, .int .i64 b]) => V.load1 (P := prog) (t := 3) underlying3 rfl (i := 0)
            have L1 := fun {hq : Heap} {a b : Int} (V : Var hq hh.size [.int .i64 a, .int .i64 b]) => V.load1 (P := prog) (t := 3) underlying3 rfl (i := 1)
            simp only [List.getElem?_cons_succ, List.getElem?_cons_zero] at L0 L1
            simp only [wk, wt, wl, ↓reduceIte, Nat.reduceEqDiff, Nat.reduceAdd, Nat.zero_add, not_false_eq_true, not_true_eq_false, t0, t2, t3, t4, LN, d0, pt]
            refine adraw_order [(0, false), (1, false), (2, false), (3, false), (4, false), (5, false), (6, false), (7, false), (8, false), (9, true), (10, false), (11, false)] mixed (by kernel_rfl) (by kernel_rfl) (by kernel_rfl) (by with_reducible repeat (first | exact PF_retK | refine PF_thenK ?_ | refine PF_blockK ?_)) ?_
            simp only [wk, wt, wl, ↓reduceIte, Nat.reduceEqDiff, Nat.reduceAdd, Nat.zero_add, not_false_eq_true, not_true_eq_false, dK_t, t0, t2, t3, t4, IX, LX, cvx, build_sp, e4]
            refine ⟨N1.reads Hh, ?_⟩
            have LN4 := X4.S.ln (n := (r.length : Int) + 1) (by simp)
            rcases r with _ | ⟨y, _ | ⟨z, r⟩⟩
            · have d5 : decide (2 < ((([] : List Int).length : Nat) : Int) + 1) = false := rfl
              have hg1 := hg.trans (spans_one (fun z u e => by cases e))
              simp only [wk, wt, wl, ↓reduceIte, Nat.reduceEqDiff, Nat.reduceAdd, Nat.zero_add, not_false_eq_true, not_true_eq_false, t0, t2, t3, t4, pt, LN4, d5]
              have d9 := L1 V4'
              have d8 := L0 V4'
              by_cases c9 : x < x
              · have e9 := decide_eq_true c9
                rw [if_pos c9] at hg1
                simp only [wk, wt, wl, ↓reduceIte, Nat.reduceEqDiff, Nat.reduceAdd, Nat.zero_add, not_false_eq_true, not_true_eq_false, t0, t2, t3, t4, d9, d8, e9, build_fault, conc_fault]
                exact ⟨5, by rw [hM]; unfold setR; rw [hfi]; simp only; rw [hg1], rfl, X4.C⟩
              · have e9 := decide_eq_false c9
                rw [if_neg c9] at hg1
                obtain ⟨v8, h8, h9, q1, q2, q3, X9⟩ := X4.push H hrl (x, x) (by omega) (k := 1) (by simp)
                have q3' : aslice prog h9 22 w (some (.int .i64 1)) none none = some (sliceV w 1 1 _) := q3
                have q1' : aappend prog (h4.new 50 [.int .i64 x, .int .i64 x]) 23 23 sv (.slice (some ⟨h4.size, 0, none⟩) 1 2) = some (v8, h8) := q1
                have LA := V4'.loadA (P := prog) (t := 50) underlying50 rfl asz50
                have LF := X4.V3.load1 (P := prog) (t := 23) underlying23 rfl (i := 2)
                simp only [reC, setC, List.getElem?_cons_succ, List.getElem?_cons_zero] at LF
                simp only [wk, wt, wl, ↓reduceIte, Nat.reduceEqDiff, Nat.reduceAdd, Nat.zero_add, not_false_eq_true, not_true_eq_false, t0, t2, t3, t4, pt, d9, d8, e9, LF, LA, bsSp, q1', q2, q3']
                simp only [List.length_cons, List.length_nil] at hk hn hL
                exact ⟨([]).length, by (try simp only [List.length_cons, List.length_nil]); omega, _, v8, _, _, m, rfl, X9, rfl, by (try simp only [List.length_cons, List.length_nil]); omega, by (try simp only [List.length_cons, List.length_nil, List.length_append]); omega, hg1, fun y hy => h32 y (List.mem_of_mem_drop (i := 1) hy)⟩
            · have d5 : decide (2 < (([y].length : Nat) : Int) + 1) = false := rfl
              have hg1 := hg.trans (spans_one (fun z u e => by cases e))
              simp only [wk, wt, wl, ↓reduceIte, Nat.reduceEqDiff, Nat.reduceAdd, Nat.zero_add, not_false_eq_true, not_true_eq_false, t0, t2, t3, t4, pt, LN4, d5]
              have d9 := L1 V4'
              have d8 := L0 V4'
              by_cases c9 : x < x
              · have e9 := decide_eq_true c9
                rw [if_pos c9] at hg1
                simp only [wk, wt, wl, ↓reduceIte, Nat.reduceEqDiff, Nat.reduceAdd, Nat.zero_add, not_false_eq_true, not_true_eq_false, t0, t2, t3, t4, d9, d8, e9, build_fault, conc_fault]
                exact ⟨5, by rw [hM]; unfold setR; rw [hfi]; simp only; rw [hg1], rfl, X4.C⟩
              · have e9 := decide_eq_false c9
                rw [if_neg c9] at hg1
                obtain ⟨v8, h8, h9, q1, q2, q3, X9⟩ := X4.push H hrl (x, x) (by omega) (k := 1) (by simp)
                have q3' : aslice prog h9 22 w (some (.int .i64 1)) none none = some (sliceV w 1 1 _) := q3
                have q1' : aappend prog (h4.new 50 [.int .i64 x, .int .i64 x]) 23 23 sv (.slice (some ⟨h4.size, 0, none⟩) 1 2) = some (v8, h8) := q1
                have LA := V4'.loadA (P := prog) (t := 50) underlying50 rfl asz50
                have LF := X4.V3.load1 (P := prog) (t := 23) underlying23 rfl (i := 2)
                simp only [reC, setC, List.getElem?_cons_succ, List.getElem?_cons_zero] at LF
                simp only [wk, wt, wl, ↓reduceIte, Nat.reduceEqDiff, Nat.reduceAdd, Nat.zero_add, not_false_eq_true, not_true_eq_false, t0, t2, t3, t4, pt, d9, d8, e9, LF, LA, bsSp, q1', q2, q3']
                simp only [List.length_cons, List.length_nil] at hk hn hL
                exact ⟨([y]).length, by (try simp only [List.length_cons, List.length_nil]); omega, _, v8, _, _, m, rfl, X9, rfl, by (try simp only [List.length_cons, List.length_nil]); omega, by (try simp only [List.length_cons, List.length_nil, List.length_append]); omega, hg1, fun y hy => h32 y (List.mem_of_mem_drop (i := 1) hy)⟩
            · have d5 : decide (2 < (((y :: z :: r).length : Nat) : Int) + 1) = true := decide_eq_true (by simp; omega)
              have IY : aindexAddr prog 22 w (.int .i64 1) = _ := (X4.S.ix (i := 1) rfl).1
              have LY := (X4.S.ix (i := 1) rfl).2
              by_cases c6 : y = 45
              · have d6 := decide_eq_true c6
                subst c6
                have hg1 := hg.trans spans_two
                have IZ : aindexAddr prog 22 w (.int .i64 2) = _ := (X4.S.ix (i := 2) rfl).1
                have LZ := (X4.S.ix (i := 2) rfl).2
                have hz := h32 z (by simp)
                have cvz := cv32 hz.1 hz.2
                obtain ⟨h5, e5, V5, C5, z5⟩ := V4'.store1 (P := prog) (t := 3) (v := .int .i64 z) (i := 1) (Ch.wf K4) asz3 (by simp) rfl
                simp only [List.set_cons_succ, List.set_cons_zero] at V5
                have K5 := K4.step C5 fun b e => by omega
                have X5 := X.keeps H K5
                simp only [wk, wt, wl, ↓reduceIte, Nat.reduceEqDiff, Nat.reduceAdd, Nat.zero_add, not_false_eq_true, not_true_eq_false, t0, t2, t3, t4, pt, LN4, d5, IY, LY, d6, IZ, LZ, cvz, e5]
                have d9 := L1 V5
                have d8 := L0 V5
                by_cases c9 : z < x
                · have e9 := decide_eq_true c9
                  rw [if_pos c9] at hg1
                  simp only [wk, wt, wl, ↓reduceIte, Nat.reduceEqDiff, Nat.reduceAdd, Nat.zero_add, not_false_eq_true, not_true_eq_false, t0, t2, t3, t4, d9, d8, e9, build_fault, conc_fault]
                  exact ⟨5, by rw [hM]; unfold setR; rw [hfi]; simp only; rw [hg1], rfl, X5.C⟩
                · have e9 := decide_eq_false c9
                  rw [if_neg c9] at hg1
                  obtain ⟨v8, h8, h9, q1, q2, q3, X9⟩ := X5.push H hrl (x, z) (by omega) (k := 3) (by simp)
                  have q3' : aslice prog h9 22 w (some (.int .i64 3)) none none = some (sliceV w 1 3 _) := q3
                  have q1' : aappend prog (h5.new 50 [.int .i64 x, .int .i64 z]) 23 23 sv (.slice (some ⟨h5.size, 0, none⟩) 1 2) = some (v8, h8) := q1
                  have LA := V5.loadA (P := prog) (t := 50) underlying50 rfl asz50
                  have LF := X5.V3.load1 (P := prog) (t := 23) underlying23 rfl (i := 2)
                  simp only [reC, setC, List.getElem?_cons_succ, List.getElem?_cons_zero] at LF
                  simp only [wk, wt, wl, ↓reduceIte, Nat.reduceEqDiff, Nat.reduceAdd, Nat.zero_add, not_false_eq_true, not_true_eq_false, t0, t2, t3, t4, pt, d9, d8, e9, LF, LA, bsSp, q1', q2, q3']
                  simp only [List.length_cons, List.length_nil] at hk hn hL
                  exact ⟨(r).length, by (try simp only [List.length_cons, List.length_nil]); omega, _, v8, _, _, m, rfl, X9, rfl, by (try simp only [List.length_cons, List.length_nil]); omega, by (try simp only [List.length_cons, List.length_nil, List.length_append]); omega, hg1, fun y hy => h32 y (List.mem_of_mem_drop (i := 3) hy)⟩
              · have d6 := decide_eq_false c6
                have hg1 := hg.trans (spans_one (fun z' u e => by cases e; exact c6 rfl))
                simp only [wk, wt, wl, ↓reduceIte, Nat.reduceEqDiff, Nat.reduceAdd, Nat.zero_add, not_false_eq_true, not_true_eq_false, t0, t2, t3, t4, pt, LN4, d5, IY, LY, d6]
                have d9 := L1 V4'
                have d8 := L0 V4'
                by_cases c9 : x < x
                · have e9 := decide_eq_true c9
                  rw [if_pos c9] at hg1
                  simp only [wk, wt, wl, ↓reduceIte, Nat.reduceEqDiff, Nat.reduceAdd, Nat.zero_add, not_false_eq_true, not_true_eq_false, t0, t2, t3, t4, d9, d8, e9, build_fault, conc_fault]
                  exact ⟨5, by rw [hM]; unfold setR; rw [hfi]; simp only; rw [hg1], rfl, X4.C⟩
                · have e9 := decide_eq_false c9
                  rw [if_neg c9] at hg1
                  obtain ⟨v8, h8, h9, q1, q2, q3, X9⟩ := X4.push H hrl (x, x) (by omega) (k := 1) (by simp)
                  have q3' : aslice prog h9 22 w (some (.int .i64 1)) none none = some (sliceV w 1 1 _) := q3
                  have q1' : aappend prog (h4.new 50 [.int .i64 x, .int .i64 x]) 23 23 sv (.slice (some ⟨h4.size, 0, none⟩) 1 2) = some (v8, h8) := q1
                  have LA := V4'.loadA (P := prog) (t := 50) underlying50 rfl asz50
                  have LF := X4.V3.load1 (P := prog) (t := 23) underlying23 rfl (i := 2)
                  simp only [reC, setC, List.getElem?_cons_succ, List.getElem?_cons_zero] at LF
                  simp only [wk, wt, wl, ↓reduceIte, Nat.reduceEqDiff, Nat.reduceAdd, Nat.zero_add, not_false_eq_true, not_true_eq_false, t0, t2, t3, t4, pt, d9, d8, e9, LF, LA, bsSp, q1', q2, q3']
                  simp only [List.length_cons, List.length_nil] at hk hn hL
                  exact ⟨(y :: z :: r).length, by (try simp only [List.length_cons, List.length_nil]); omega, _, v8, _, _, m, rfl, X9, rfl, by (try simp only [List.length_cons, List.length_nil]); omega, by (try simp only [List.length_cons, List.length_nil, List.length_append]); omega, hg1, fun y hy => h32 y (List.mem_of_mem_drop (i := 1) hy)⟩
        · have nx : ∀ j, 1 ≤ j → j < i + 1 → (a :: l)[j]? ≠ some 93 := fun j h1 h2 => by
            rcases Nat.lt_or_eq_of_le (Nat.lt_succ_iff.1 h2) with e | rfl
            · exact hno j h1 e
            · rw [hy]; intro e; cases e; exact c1 ⟨rfl, by omega⟩
          by_cases c2 : y = 93
          · have d1 := decide_eq_true c2
            have d2 : decide (0 < (i : Int)) = false := decide_eq_false (fun e => c1 ⟨c2, by omega⟩)
            simp only [wk, wt, wl, ↓reduceIte, Nat.reduceEqDiff, Nat.reduceAdd, Nat.zero_add, not_false_eq_true, not_true_eq_false, t0, t2, t3, t4, t5, t28, t29, t30, IX, LX, d1, d2, wi, intOf_int]
            exact ⟨⟨i + 1, rfl, by omega, nx⟩, by omega⟩
          · have d1 := decide_eq_false c2
            simp only [wk, wt, wl, ↓reduceIte, Nat.reduceEqDiff, Nat.reduceAdd, Nat.zero_add, not_false_eq_true, not_true_eq_false, t0, t2, t3, t4, t5, t28, t29, t30, IX, LX, d1, wi, intOf_int]
            exact ⟨⟨i + 1, rfl, by omega, nx⟩, by omega⟩
      · have d3 : decide ((-1 : Int) < 0) = true := rfl
        have hM : setM (a :: l) = setR false (a :: l) := (setM_no (by simp [ca]))
        have hfi : findM ((a :: l).drop 1) = none := find_none fun j e => by
          rw [List.getElem?_drop] at e
          have := (List.getElem?_eq_some_iff.1 e).1
          exact hno _ (by omega) (by omega) e
        simp only [wk, wt, wl, ↓reduceIte, Nat.reduceEqDiff, Nat.reduceAdd, Nat.zero_add, not_false_eq_true, not_true_eq_false, t5, d3, build_fault, conc_fault]
        exact ⟨10, by rw [hM]; unfold setR; rw [hfi], rfl, K3.mono fun _ e => e.elim⟩
end Go.Proofs.Ytnnkcbkenofhmaa.Am
