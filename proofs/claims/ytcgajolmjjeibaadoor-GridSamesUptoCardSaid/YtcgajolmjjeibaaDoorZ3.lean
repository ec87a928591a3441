/- The texts of this seat, one behind another (part 3 of 11): the frame (an abstract machine), the contracts of functions, the laws. -/
import Derived.Test.YtcgajolmjjeibaaDoorZ2
section
/- Grids of the document: contracts of runes, digits, decimal, row, by walks. -/
set_option linter.unusedSimpArgs false
set_option linter.unusedVariables false
set_option maxHeartbeats 4000000
set_option maxRecDepth 20000
namespace Go.Proofs.YtcgajolmjjeibaaDoor.Am
open Go Go.RowKit Go.Proofs.Tryd
/-- Runes of one's own. -/
def OI (B : Nat) (h : Heap) (v : Value) (xs : List Int) : Prop := Own prog B h 1 v xs.length (xs.map (Value.int .i32))
theorem OI.rd {B : Nat} {h : Heap} {v : Value} {xs : List Int} (O : OI B h v xs) : RdI prog h .i32 v xs := O.1
theorem OI.grow {h h1 : Heap} {B : Nat} {v w : Value} {xs ys : List Int} (K : Keeps h h1) (hB : B = h.size) (O : OI B h1 v xs) (R : RdI prog h1 .i32 w ys) (hl : xs.length + ys.length ≤ 1000000) :
    ∃ v2 h2, aappend prog h1 23 23 v w = some (v2, h2) ∧ OI B h2 v2 (xs ++ ys) ∧ Keeps h h2 ∧ Reads h1 h2 := by
  subst hB
  obtain ⟨v2, h2, e2, O2, R2, C2, hv⟩ := Own.appendRd (P := prog) (Ch.wf K) (Ch.le K) O underlying23 underlying23 rfl elem21 fits21 (by decide) R (by omega)
  exact ⟨v2, h2, e2, by unfold OI; rw [List.length_append, List.map_append]; exact O2, K.step C2 fun b hb => hb.2, R2⟩
theorem cv_u8 {h : Heap} {x : Int} : aconv prog h 5 21 (.int .u8 x) = some (.int .i32 (IntKind.i32.wrap x)) := by simp [aconv, underlying21, underlying5]
theorem cv_u64 {h : Heap} {x : Int} : aconv prog h 132 21 (.int .u64 x) = some (.int .i32 (IntKind.i32.wrap x)) := by simp [aconv, underlying21, underlying132]
theorem cv_iu {h : Heap} {x : Int} : aconv prog h 3 132 (.int .i64 x) = some (.int .u64 (IntKind.u64.wrap x)) := by simp [aconv, underlying3, underlying132]
theorem lenS {s : ByteArray} : abuiltin prog .len #[9] #[.string s] = some (.int .i64 s.size) := by simp [abuiltin, underlying9]
theorem runesD_ok {h : Heap} {s : ByteArray} (hs : s.size ≤ 100) : ACalls prog 50 #[.string s] h (fun v h' => ∃ xs, OI h.size h' v xs ∧ xs.length = s.size ∧ Keeps h h') := by
  refine acalls_of_W' func50 rfl (by kernel_rfl) (by kernel_rfl) (by simp [ntmps50]) ?_
  intro H
  simp only [wk, wt, wl, ↓reduceIte, Nat.reduceEqDiff, Nat.reduceAdd, Nat.zero_add, not_false_eq_true, not_true_eq_false]
  refine W_loop (fun tm hh => tm 0 = .string s ∧ Keeps h hh ∧ ∃ (i : Nat) (v : Value) (xs : List Int), tm 4 = .int .i64 (i : Int) ∧ tm 3 = v ∧ i ≤ s.size ∧ xs.length = i ∧ OI h.size hh v xs) (fun tm _ => (s.size - intOf (tm 4)).toNat) ⟨(by first | rfl | (simp only [wk, wt, wl, ↓reduceIte, Nat.reduceEqDiff, Nat.reduceAdd, Nat.zero_add, not_false_eq_true, not_true_eq_false]; done) | (simp only [wk, wt, wl, ↓reduceIte, Nat.reduceEqDiff, Nat.reduceAdd, Nat.zero_add, not_false_eq_true, not_true_eq_false]; rfl)), Keeps.refl H, 0, .slice none 0 0, [], (by first | rfl | (simp only [wk, wt, wl, ↓reduceIte, Nat.reduceEqDiff, Nat.reduceAdd, Nat.zero_add, not_false_eq_true, not_true_eq_false]; done) | (simp only [wk, wt, wl, ↓reduceIte, Nat.reduceEqDiff, Nat.reduceAdd, Nat.zero_add, not_false_eq_true, not_true_eq_false]; rfl)), (by first | rfl | (simp only [wk, wt, wl, ↓reduceIte, Nat.reduceEqDiff, Nat.reduceAdd, Nat.zero_add, not_false_eq_true, not_true_eq_false]; done) | (simp only [wk, wt, wl, ↓reduceIte, Nat.reduceEqDiff, Nat.reduceAdd, Nat.zero_add, not_false_eq_true, not_true_eq_false]; rfl)), by omega, rfl, Own.nil0⟩ ?_
  rintro tm hh ⟨t0, K, i, v, xs, t4, t3, hi, hxl, O⟩
  simp only [wk, wt, wl, ↓reduceIte, Nat.reduceEqDiff, Nat.reduceAdd, Nat.zero_add, not_false_eq_true, not_true_eq_false, t0, t3, t4, lenS]
  refine condK_dec (fun hd => ?_) (fun hd => ?_)
  · obtain ⟨b, hb⟩ : ∃ b, s[i]? = some b := ⟨_, by rw [getElem?_pos]; omega⟩
    have IX : aindex prog 9 (.string s) (.int .i64 (i : Int)) = some (.int .u8 (b.toNat : Int)) := by simp [aindex, underlying9, hb]
    have N := Keeps.new (Ch.wf K) 21 [.int .i32 (IntKind.i32.wrap (b.toNat : Int))]
    have R : RdI prog (hh.new 21 [.int .i32 (IntKind.i32.wrap (b.toNat : Int))]) .i32 (.slice (some ⟨hh.size, 0, none⟩) 1 2) [IntKind.i32.wrap (b.toNat : Int)] := Rd.new (Ch.wf K) asz21 rfl
    obtain ⟨v2, h2, e2, O2, K2, _⟩ := OI.grow (K.trans N) rfl (O.keeps N) R (by simp; omega)
    have wi : IntKind.i64.wrap ((i : Int) + 1) = ((i + 1 : Nat) : Int) := by rw [IntWalk.i64_in _ (by omega)]; omega
    simp only [wk, wt, wl, ↓reduceIte, Nat.reduceEqDiff, Nat.reduceAdd, Nat.zero_add, not_false_eq_true, not_true_eq_false, t0, t3, t4, IX, cv_u8, bsr1, e2, wi, intOf_int]
    exact ⟨⟨K2, i + 1, _, _, rfl, rfl, by omega, by simp; omega, O2⟩, by omega⟩
  · simp only [wk, wt, wl, ↓reduceIte, Nat.reduceEqDiff, Nat.reduceAdd, Nat.zero_add, not_false_eq_true, not_true_eq_false, t3]
    exact ⟨xs, O, by omega, K⟩
theorem digitsD_ok : ∀ (k : Nat) (n : Int) (h : Heap), 0 ≤ n → n < 10 ^ (k + 1) → n ≤ 18446744073709551615 ∧ k ≤ 100 → ACalls prog 74 #[.int .u64 n] h (fun v h' => ∃ xs, OI h.size h' v xs ∧ xs.length ≤ k + 1 ∧ Keeps h h') := by
  have small : ∀ (n : Int) (h : Heap), n < 10 → ACalls prog 74 #[.int .u64 n] h (fun v h' => ∃ xs, OI h.size h' v xs ∧ xs.length ≤ 1 ∧ Keeps h h') := by
    intro n h hn
    refine acalls_of_W' func74 rfl (by kernel_rfl) (by kernel_rfl) (by simp [ntmps74]) ?_
    intro H
    have d0 := decide_eq_true hn
    simp only [wk, wt, wl, ↓reduceIte, Nat.reduceEqDiff, Nat.reduceAdd, Nat.zero_add, not_false_eq_true, not_true_eq_false, d0, cv_u64, bsr1]
    exact ⟨[_], Own.new H (Nat.le_refl _) asz21 rfl, by simp, Keeps.new H _ _⟩
  intro k
  induction k with
  | zero =>
    intro n h h0 h1 _
    exact small n h (by simpa using h1)
  | succ k ih =>
    intro n h h0 h1 hk
    by_cases hn : n < 10
    · exact (small n h hn).mono fun v h' ⟨xs, q1, q2, q3⟩ => ⟨xs, q1, by omega, q3⟩
    · refine acalls_of_W' func74 rfl (by kernel_rfl) (by kernel_rfl) (by simp [ntmps74]) ?_
      intro H
      have d0 := decide_eq_false hn
      have rm := abin_rem (P := prog) (t := 132) (k := .u64) (x := n) (y := 10) (by decide)
      have qo := abin_quo (P := prog) (t := 132) (k := .u64) (x := n) (y := 10) (by decide)
      rw [Int.tdiv_eq_ediv_of_nonneg h0] at qo
      have wq : IntKind.u64.wrap (n / 10) = n / 10 := IntWalk.u64_in _ (by omega)
      rw [wq] at qo
      have hlt : n / 10 < 10 ^ (k + 1) := by rw [Int.pow_succ] at h1; omega
      simp only [wk, wt, wl, ↓reduceIte, Nat.reduceEqDiff, Nat.reduceAdd, Nat.zero_add, not_false_eq_true, not_true_eq_false, d0, qo]
      refine (ih (n / 10) h (by omega) hlt (by omega)).use ?_
      rintro _ h2 ⟨xs, O, hl, K⟩
      have N := Keeps.new (Ch.wf K) 21 [.int .i32 (IntKind.i32.wrap (IntKind.u64.wrap (48 + n.tmod 10)))]
      have R : RdI prog (h2.new 21 [.int .i32 (IntKind.i32.wrap (IntKind.u64.wrap (48 + n.tmod 10)))]) .i32 (.slice (some ⟨h2.size, 0, none⟩) 1 2) [IntKind.i32.wrap (IntKind.u64.wrap (48 + n.tmod 10))] := Rd.new (Ch.wf K) asz21 rfl
      obtain ⟨v3, h3, e3, O3, K3, _⟩ := OI.grow (K.trans N) rfl (O.keeps N) R (by simp; omega)
      simp only [wk, wt, wl, ↓reduceIte, Nat.reduceEqDiff, Nat.reduceAdd, Nat.zero_add, not_false_eq_true, not_true_eq_false, rm, cv_u64, bsr1, e3]
      exact ⟨_, O3, by simp; omega, K3⟩
theorem digitsU_ok {n : Int} {h : Heap} (h0 : 0 ≤ n) (h1 : n ≤ 18446744073709551615) : ACalls prog 74 #[.int .u64 n] h (fun v h' => ∃ xs, OI h.size h' v xs ∧ xs.length ≤ 20 ∧ Keeps h h') :=
  digitsD_ok 19 n h h0 (Int.lt_of_le_of_lt h1 (by decide)) ⟨h1, by decide⟩
theorem u64_range (x : Int) : 0 ≤ IntKind.u64.wrap x ∧ IntKind.u64.wrap x ≤ 18446744073709551615 := by rw [IntKind.wrap_u64]; omega
theorem decimalD_ok {n : Int} {h : Heap} : ACalls prog 51 #[.int .i64 n] h (fun v h' => ∃ xs, OI h.size h' v xs ∧ xs.length ≤ 21 ∧ Keeps h h') := by
  refine acalls_of_W' func51 rfl (by kernel_rfl) (by kernel_rfl) (by simp [ntmps51]) ?_
  intro H
  by_cases hn : n < 0
  · have d0 := decide_eq_true hn
    have N := Keeps.new H 21 [.int .i32 45]
    have O0 : OI h.size (h.new 21 [.int .i32 45]) (.slice (some ⟨h.size, 0, none⟩) 1 2) [45] := Own.new H (Nat.le_refl _) asz21 rfl
    have an : ∀ x : Int, aun .neg (.int .i64 x) = some (.int .i64 (IntKind.i64.wrap (0 - x))) := fun x => by simp [aun]
    simp only [wk, wt, wl, ↓reduceIte, Nat.reduceEqDiff, Nat.reduceAdd, Nat.zero_add, not_false_eq_true, not_true_eq_false, d0, bsr1, cv_iu, an]
    have ur := u64_range
    refine (digitsU_ok (ur _).1 (ur _).2).use ?_
    rintro _ h2 ⟨xs, O, hl, K⟩
    obtain ⟨v3, h3, e3, O3, K3, _⟩ := OI.grow (N.trans K) rfl (O0.keeps K) O.rd (by simp; omega)
    simp only [wk, wt, wl, ↓reduceIte, Nat.reduceEqDiff, Nat.reduceAdd, Nat.zero_add, not_false_eq_true, not_true_eq_false, e3]
    exact ⟨_, O3, by simp; omega, K3⟩
  · have d0 := decide_eq_false hn
    simp only [wk, wt, wl, ↓reduceIte, Nat.reduceEqDiff, Nat.reduceAdd, Nat.zero_add, not_false_eq_true, not_true_eq_false, d0, cv_iu]
    have ur := u64_range
    refine (digitsU_ok (ur _).1 (ur _).2).use ?_
    rintro _ h2 ⟨xs, O, hl, K⟩
    simp only [wk, wt, wl, ↓reduceIte, Nat.reduceEqDiff, Nat.reduceAdd, Nat.zero_add, not_false_eq_true, not_true_eq_false]
    exact ⟨_, O, by omega, K⟩
/-- Runes as they are: scalars or not, of 32 bits. -/
def TR32 (xs : List Int) : Prop := (∀ j, isR (xs.getD j 0)) ∧ xs.length ≤ 10000
theorem refRow_ok {h : Heap} {gb kb f : Nat} {R C y z lo hi tab ar : Int} {l : List Cel} {tv : Value} {xs : List Int} (S : GS h gb kb f R C l) (X : RdI prog h .i32 tv xs) (hx : TR32 xs) (T : TxLe 20000 l) :
    ACalls prog 25 #[pt gb, .int .i64 y, .int .i64 z, .int .i64 lo, .int .i64 hi, tv, .int .i64 tab, .int .i64 ar] h (fun v h' => ∃ l', GS h' gb kb f R C l' ∧ l'.length = l.length ∧ TxLe 20000 l' ∧ Ch (FR f h) h h') := by
  refine acalls_of_W' func25 rfl (by kernel_rfl) (by kernel_rfl) (by simp [ntmps25]) ?_
  intro H
  simp only [wk, wt, wl, ↓reduceIte, Nat.reduceEqDiff, Nat.reduceAdd, Nat.zero_add, not_false_eq_true, not_true_eq_false]
  refine (refUnits_ok X hx.1 hx.2).use ?_
  rintro uv h2 ⟨us, hus, UR2, K2⟩
  have ul := (unitsL_ok (line := xs) (tab := tab)).len
  have hul : us.length = (unitsL xs tab).length := by rw [← hus, List.length_map]
  have hx2 := hx.2
  simp only [wk, wt, wl, ↓reduceIte, Nat.reduceEqDiff, Nat.reduceAdd, Nat.zero_add, not_false_eq_true, not_true_eq_false]
  refine W_loop (fun tm hh => tm 0 = pt gb ∧ tm 1 = .int .i64 y ∧ tm 3 = .int .i64 lo ∧ tm 4 = .int .i64 hi ∧ tm 16 = uv ∧ tm 7 = .int .i64 ar ∧ ∃ (i : Nat) (z' : Int) (l' : List Cel), tm 17 = .int .i64 (i : Int) ∧ tm 2 = .int .i64 z' ∧ i ≤ us.length ∧ GS hh gb kb f R C l' ∧ l'.length = l.length ∧ TxLe 20000 l' ∧ Ch (FR f h2) h2 hh)
    (fun tm _ => (us.length - intOf (tm 17)).toNat) ⟨(by first | rfl | (simp only [wk, wt, wl, ↓reduceIte, Nat.reduceEqDiff, Nat.reduceAdd, Nat.zero_add, not_false_eq_true, not_true_eq_false]; done) | (simp only [wk, wt, wl, ↓reduceIte, Nat.reduceEqDiff, Nat.reduceAdd, Nat.zero_add, not_false_eq_true, not_true_eq_false]; rfl)), (by first | rfl | (simp only [wk, wt, wl, ↓reduceIte, Nat.reduceEqDiff, Nat.reduceAdd, Nat.zero_add, not_false_eq_true, not_true_eq_false]; done) | (simp only [wk, wt, wl, ↓reduceIte, Nat.reduceEqDiff, Nat.reduceAdd, Nat.zero_add, not_false_eq_true, not_true_eq_false]; rfl)), (by first | rfl | (simp only [wk, wt, wl, ↓reduceIte, Nat.reduceEqDiff, Nat.reduceAdd, Nat.zero_add, not_false_eq_true, not_true_eq_false]; done) | (simp only [wk, wt, wl, ↓reduceIte, Nat.reduceEqDiff, Nat.reduceAdd, Nat.zero_add, not_false_eq_true, not_true_eq_false]; rfl)), (by first | rfl | (simp only [wk, wt, wl, ↓reduceIte, Nat.reduceEqDiff, Nat.reduceAdd, Nat.zero_add, not_false_eq_true, not_true_eq_false]; done) | (simp only [wk, wt, wl, ↓reduceIte, Nat.reduceEqDiff, Nat.reduceAdd, Nat.zero_add, not_false_eq_true, not_true_eq_false]; rfl)), (by first | rfl | (simp only [wk, wt, wl, ↓reduceIte, Nat.reduceEqDiff, Nat.reduceAdd, Nat.zero_add, not_false_eq_true, not_true_eq_false]; done) | (simp only [wk, wt, wl, ↓reduceIte, Nat.reduceEqDiff, Nat.reduceAdd, Nat.zero_add, not_false_eq_true, not_true_eq_false]; rfl)), (by first | rfl | (simp only [wk, wt, wl, ↓reduceIte, Nat.reduceEqDiff, Nat.reduceAdd, Nat.zero_add, not_false_eq_true, not_true_eq_false]; done) | (simp only [wk, wt, wl, ↓reduceIte, Nat.reduceEqDiff, Nat.reduceAdd, Nat.zero_add, not_false_eq_true, not_true_eq_false]; rfl)), 0, z, l, (by first | rfl | (simp only [wk, wt, wl, ↓reduceIte, Nat.reduceEqDiff, Nat.reduceAdd, Nat.zero_add, not_false_eq_true, not_true_eq_false]; done) | (simp only [wk, wt, wl, ↓reduceIte, Nat.reduceEqDiff, Nat.reduceAdd, Nat.zero_add, not_false_eq_true, not_true_eq_false]; rfl)), (by first | rfl | (simp only [wk, wt, wl, ↓reduceIte, Nat.reduceEqDiff, Nat.reduceAdd, Nat.zero_add, not_false_eq_true, not_true_eq_false]; done) | (simp only [wk, wt, wl, ↓reduceIte, Nat.reduceEqDiff, Nat.reduceAdd, Nat.zero_add, not_false_eq_true, not_true_eq_false]; rfl)), by omega, S.keeps H K2, rfl, T, (Keeps.refl (Ch.wf K2)).rg⟩ ?_
  rintro tm hh ⟨t0, t1, t3, t4, t16, t7, i, z, l', t17, t2, hi, S3, hll, T3, C3⟩
  have S2 := S.keeps H K2
  have UR3 : UR hh uv us := ⟨Rd.chF UR2.rd S2.G.sz C3 (by decide), fun x hx => Rd.chF (UR2.txt x hx) S2.G.sz C3 (by decide)⟩
  have LU := UR3.rd.len underlying44
  simp only [wk, wt, wl, ↓reduceIte, Nat.reduceEqDiff, Nat.reduceAdd, Nat.zero_add, not_false_eq_true, not_true_eq_false, t0, t1, t3, t4, t16, t7, t17, t2, LU]
  refine condK_dec (fun hd => ?_) (fun hd => ?_)
  · have hiu : i < us.length := by omega
    have hxi : us[i]? = some ((us[i]).1, (us[i]).2) := List.getElem?_eq_getElem hiu
    obtain ⟨_, _, _, _, f4⟩ := UR3.field hxi
    have IX := UR3.rd.index underlying44 asz61 (q := .i64) (i := (i : Int)) (by omega) (by omega)
    rw [Int.toNat_natCast] at IX
    have hmem : (us[i]).1 ∈ unitsL xs tab := by rw [← hus]; exact List.mem_map.2 ⟨_, List.getElem_mem hiu, rfl⟩
    have hut := unit_tx hmem
    have wi : IntKind.i64.wrap ((i : Int) + 1) = ((i + 1 : Nat) : Int) := by rw [IntWalk.i64_in _ (by omega)]; omega
    simp only [wk, wt, wl, ↓reduceIte, Nat.reduceEqDiff, Nat.reduceAdd, Nat.zero_add, not_false_eq_true, not_true_eq_false, t0, t1, t3, t4, t16, t7, t17, t2, IX, f4]
    refine (typed_ok S3 (UR3.txt _ (List.getElem_mem hiu)) (m := 20000) (by omega) (by omega) T3).use ?_
    rintro _ h4 ⟨w, l4, rfl, S4, hl4, T4, C4⟩
    simp only [wk, wt, wl, ↓reduceIte, Nat.reduceEqDiff, Nat.reduceAdd, Nat.zero_add, not_false_eq_true, not_true_eq_false, t0, t1, t3, t4, t16, t7, t17, t2, wi, intOf_int]
    exact ⟨⟨i + 1, w, l4, rfl, rfl, by omega, S4, hl4.trans hll, T4, C3.thenR C4⟩, by omega⟩
  · simp only [wk, wt, wl, ↓reduceIte, Nat.reduceEqDiff, Nat.reduceAdd, Nat.zero_add, not_false_eq_true, not_true_eq_false]
    exact ⟨l', S3, hll, T3, K2.rg.thenR C3⟩
end Go.Proofs.YtcgajolmjjeibaaDoor.Am
end
section
/- Grids: awake, by a walk. -/
set_option linter.unusedSimpArgs false
set_option linter.unusedVariables false
set_option maxHeartbeats 4000000
set_option maxRecDepth 20000
namespace Go.Proofs.YtcgajolmjjeibaaDoor.Am
open Go Go.RowKit Go.Proofs.Tryd
def pnA (left : Int) : PaM := ⟨0, 0, 0, 1, 3, [[97, 20013, 98]], [⟨0, 0, 4, false⟩], 8, left, []⟩
theorem drawA : drawM 2 3 [pnA 0] [] = [⟨[97], 0, false⟩, ⟨[20013], 0, true⟩, ⟨[], 0, false⟩, bl 0, bl 0, bl 0] := by kernel_rfl
theorem drawB : drawM 2 3 [pnA 2] [] = [bl 0, ⟨[98], 0, false⟩, bl 0, bl 0, bl 0, bl 0] := by kernel_rfl
theorem pnA_ok {left : Int} (hl : Sm left) : PaOk (pnA left) := by
  have s0 : Sm 0 := ⟨by decide, by decide⟩
  have s1 : Sm 1 := ⟨by decide, by decide⟩
  have s3 : Sm 3 := ⟨by decide, by decide⟩
  refine ⟨s0, s0, s1, s3, hl, fun i xs h => ?_, by simp [pnA], by simp [pnA], fun r hr => ?_⟩
  · rcases i with _ | i
    · cases h
      refine ⟨fun j => ?_, by simp⟩
      rcases j with _ | _ | _ | j <;> simp [List.getD, isR]
    · simp [pnA] at h
  · simp only [pnA, List.mem_singleton] at hr
    subst hr
    exact ⟨rfl, ⟨by decide, by decide⟩, by decide, by decide⟩
theorem build_w34 {x y : Int} : abuild prog 47 #[(3, .int .i64 x), (4, .int .i64 y)] = some (.agg #[.int .i64 0, .int .i64 0, .int .i64 0, .int .i64 x, .int .i64 y]) := by simp [abuild, wt, aplaces, Instr.fill, Value.cells]
theorem build_pn {a b c d e tab left : Int} {a1 a2 : Addr} {n1 c1 n2 c2 : Nat} : abuild prog 57 #[(0, .agg #[.int .i64 a, .int .i64 b, .int .i64 c, .int .i64 d, .int .i64 e]), (1, .slice (some a1) n1 c1), (2, .slice (some a2) n2 c2), (3, .int .i64 tab), (4, .int .i64 left)] = some (.agg (paC ⟨a, b, c, d, e, [], [], tab, left, []⟩ (.slice (some a1) n1 c1) (.slice (some a2) n2 c2) (.slice none 0 0) 0 0 0 0 0).toArray) := by
  simp [abuild, wt, aplaces, Instr.fill, Value.cells]; rfl
theorem bsPane {h : Heap} {q : PaQ} (o1 : one q.lv = true) (o2 : one q.rv = true) (o3 : one q.sv = true) : abuildSlice prog h 59 1 #[(0, .agg (pqC q).toArray)] = some (.slice (some ⟨h.size, 0, none⟩) 1 2, h.new 57 (pqC q)) := by
  have hr : Array.range 16 = #[0, 1, 2, 3, 4, 5, 6, 7, 8, 9, 10, 11, 12, 13, 14, 15] := rfl
  simp [abuildSlice, underlying59, asz57, zero_pane, firstOf, Instr.fill, paC, pqC, hr, Value.cells, o1, o2, o3, one_int, one_bool]
theorem pane0_ok {h : Heap} {left : Int} : ACalls prog 30 #[.int .i64 left] h (fun y h' => ∃ q : PaQ, y = .agg (pqC q).toArray ∧ q.p = pnA left ∧ PaV h' q.p (pqC q) ∧ Keeps h h' ∧ one q.lv = true ∧ one q.rv = true ∧ one q.sv = true) := by
  refine acalls_of_W' func30 rfl (by kernel_rfl) (by kernel_rfl) (by simp [ntmps30]) ?_
  intro H
  have N1 := Keeps.new H 57 zPane
  have V1 := Var.new (e := 57) H (cs := zPane)
  have z1 : (h.new 57 zPane).size = h.size + 1 := rfl
  have N2 := Keeps.new (Ch.wf N1) 21 [.int .i32 97, .int .i32 20013, .int .i32 98]
  have R2 : RdI prog ((h.new 57 zPane).new 21 [.int .i32 97, .int .i32 20013, .int .i32 98]) .i32 (.slice (some ⟨h.size + 1, 0, none⟩) 3 4) [97, 20013, 98] := Rd.new (Ch.wf N1) asz21 rfl
  have z2 : ((h.new 57 zPane).new 21 [.int .i32 97, .int .i32 20013, .int .i32 98]).size = h.size + 2 := rfl
  have bl1 : abuildSlice prog ((h.new 57 zPane).new 21 [.int .i32 97, .int .i32 20013, .int .i32 98]) 35 1 #[(0, .slice (some ⟨h.size + 1, 0, none⟩) 3 4)] = some (.slice (some ⟨h.size + 2, 0, none⟩) 1 2, ((h.new 57 zPane).new 21 [.int .i32 97, .int .i32 20013, .int .i32 98]).new 23 [.slice (some ⟨h.size + 1, 0, none⟩) 3 4]) := by
    have := build1 (P := prog) (h := (h.new 57 zPane).new 21 [.int .i32 97, .int .i32 20013, .int .i32 98]) underlying35 asz23 azero23 rfl (v0 := .slice (some ⟨h.size + 1, 0, none⟩) 3 4) rfl
    rw [z2] at this; exact this
  simp only [wk, wt, wl, ↓reduceIte, Nat.reduceEqDiff, Nat.reduceAdd, Nat.zero_add, not_false_eq_true, not_true_eq_false, newPane, newSz, z1, build_w34, z2, bl1]
  generalize hh2 : (h.new 57 zPane).new 21 [.int .i32 97, .int .i32 20013, .int .i32 98] = h2 at *
  have K2 := N1.trans N2
  have V2 := Keeps.var (Ch.wf N1) N2 V1
  have N3 := Keeps.new (Ch.wf K2) 23 [.slice (some ⟨h.size + 1, 0, none⟩) 3 4]
  have R3 : Rd prog (h2.new 23 [.slice (some ⟨h.size + 1, 0, none⟩) 3 4]) 1 (.slice (some ⟨h.size + 2, 0, none⟩) 1 2) 1 [.slice (some ⟨h.size + 1, 0, none⟩) 3 4] := by rw [← z2]; exact Rd.new (Ch.wf K2) asz23 rfl
  have z3 : (h2.new 23 [.slice (some ⟨h.size + 1, 0, none⟩) 3 4]).size = h.size + 3 := by rw [newSz, z2]
  have V3 := Keeps.var (Ch.wf K2) N3 V2
  have K3 := K2.trans N3
  simp only [wk, wt, wl, ↓reduceIte, Nat.reduceEqDiff, Nat.reduceAdd, Nat.zero_add, not_false_eq_true, not_true_eq_false, build_r2, bsr, z3]
  generalize hh3 : h2.new 23 [.slice (some ⟨h.size + 1, 0, none⟩) 3 4] = h3 at *
  have N4 := Keeps.new (Ch.wf K3) 50 (cR ⟨0, 0, 4, false⟩)
  have R4 : RR (h3.new 50 (cR ⟨0, 0, 4, false⟩)) (.slice (some ⟨h.size + 3, 0, none⟩) 1 2) [⟨0, 0, 4, false⟩] := by rw [← z3]; exact Rd.new (Ch.wf K3) asz50 rfl
  have V4 := Keeps.var (Ch.wf K3) N4 V3
  have K4 := K3.trans N4
  obtain ⟨h5, e5, V5, C5, z5⟩ := V4.store (P := prog) (t := 57) (v := .agg (paC ⟨0, 0, 0, 1, 3, [], [], 8, left, []⟩ (.slice (some ⟨h.size + 2, 0, none⟩) 1 2) (.slice (some ⟨h.size + 3, 0, none⟩) 1 2) (.slice none 0 0) 0 0 0 0 0).toArray) (i := 0) (Ch.wf N4) asz57 (by simp [Value.cells, paC, zPane]) (by simp [Value.cells, paC, one_int, one_bool, one])
  have hov : over zPane 0 (Value.agg (paC ⟨0, 0, 0, 1, 3, [], [], 8, left, []⟩ (.slice (some ⟨h.size + 2, 0, none⟩) 1 2) (.slice (some ⟨h.size + 3, 0, none⟩) 1 2) (.slice none 0 0) 0 0 0 0 0).toArray).cells.toList = paC ⟨0, 0, 0, 1, 3, [], [], 8, left, []⟩ (.slice (some ⟨h.size + 2, 0, none⟩) 1 2) (.slice (some ⟨h.size + 3, 0, none⟩) 1 2) (.slice none 0 0) 0 0 0 0 0 := by
    rw [over_all (by simp [Value.cells, paC, zPane])]; simp [Value.cells]
  rw [hov] at V5
  have L5 := V5.loadA (P := prog) (t := 57) underlying57 rfl asz57
  have K5 : Keeps h h5 := K4.step C5 fun b e => by omega
  have bp := build_pn (a := 0) (b := 0) (c := 0) (d := 1) (e := 3) (tab := 8) (left := left) (a1 := ⟨h.size + 2, 0, none⟩) (n1 := 1) (c1 := 2) (a2 := ⟨h.size + 3, 0, none⟩) (n2 := 1) (c2 := 2)
  simp only [wk, wt, wl, ↓reduceIte, Nat.reduceEqDiff, Nat.reduceAdd, Nat.zero_add, not_false_eq_true, not_true_eq_false, bp, e5, L5]
  refine ⟨⟨pnA left, .slice (some ⟨h.size + 2, 0, none⟩) 1 2, .slice (some ⟨h.size + 3, 0, none⟩) 1 2, .slice none 0 0, 0, 0, 0, 0, 0⟩, rfl, rfl, ?_, K5, rfl, rfl, rfl⟩
  refine ⟨_, _, _, _, _, _, _, _, rfl, ⟨[.slice (some ⟨h.size + 1, 0, none⟩) 3 4], rfl, ?_, fun i x xs hx hl => ?_⟩, ?_, Rd.nil0⟩
  · refine Ch.rd C5 (R3.keeps N4) fun b e f => ?_
    have e2 : h.size + 2 = b := by cases e; rfl
    omega
  · rcases i with _ | i
    · cases hx; cases hl
      refine Ch.rd C5 ((R2.keeps N3).keeps N4) fun b e f => ?_
      have e2 : h.size + 1 = b := by cases e; rfl
      omega
    · cases hx
  · refine Ch.rd C5 R4 fun b e f => ?_
    have e2 : h.size + 3 = b := by cases e; rfl
    omega
theorem ps_one {h : Heap} (H : Wf h) {q : PaQ} (V : PaV h q.p (pqC q)) : PS (h.new 57 (pqC q)) (.slice (some ⟨h.size, 0, none⟩) 1 2) [q.p] :=
  ⟨[q], rfl, Rd.new H asz57 rfl, fun r hr => by rw [List.mem_singleton.1 hr]; exact V.keeps (Keeps.new H _ _)⟩
theorem grid_var {h : Heap} (H : Wf h) {g : GM} {v : Value} (o : one v = true) : ∃ h', storeV prog (h.new 29 [.int .i64 0, .int .i64 0, .slice none 0 0, .int .i64 0, .int .i64 0]) 29 (.pointer (some ⟨h.size, 0, none⟩)) (gV g v) = some (undef, h') ∧ Var h' h.size (gC g v) ∧ Keeps h h' ∧ h'.size = h.size + 1 := by
  have N := Keeps.new H 29 [.int .i64 0, .int .i64 0, .slice none 0 0, .int .i64 0, .int .i64 0]
  obtain ⟨h', e, V, C, z⟩ := (Var.new (e := 29) H (cs := [.int .i64 0, .int .i64 0, .slice none 0 0, .int .i64 0, .int .i64 0])).store (P := prog) (t := 29) (v := gV g v) (i := 0) (Ch.wf N) asz29 (by simp [Value.cells, gV, gC]) (by simp [Value.cells, gV, gC, o, one_int])
  refine ⟨h', e, ?_, N.step C fun b e => by omega, z⟩
  have : over [.int .i64 0, .int .i64 0, .slice none 0 0, .int .i64 0, .int .i64 0] 0 (gV g v).cells.toList = gC g v := by
    rw [over_all (by simp [Value.cells, gV, gC])]; simp [Value.cells, gV]
  rw [this] at V; exact V
theorem gridV_gV {R C : Int} {kb n : Nat} {y x : Int} {l : List Cel} : gridV R C kb n y x = gV ⟨R, C, l, y, x⟩ (cvS kb n) := rfl
end Go.Proofs.YtcgajolmjjeibaaDoor.Am
end
section
/- Grids: awake, by a walk. -/
set_option linter.unusedSimpArgs false
set_option linter.unusedVariables false
set_option maxHeartbeats 4000000
set_option maxRecDepth 20000
namespace Go.Proofs.YtcgajolmjjeibaaDoor.Am
open Go Go.RowKit Go.Proofs.Tryd
def gA : GM := ⟨2, 3, [⟨[97], 0, false⟩, ⟨[20013], 0, true⟩, ⟨[], 0, false⟩, bl 0, bl 0, bl 0], 0, 2⟩
def gB : GM := ⟨2, 3, [bl 0, ⟨[98], 0, false⟩, bl 0, bl 0, bl 0, bl 0], 0, 0⟩
theorem gAB : decide (gA = gB) = false := by decide
theorem gAA : decide (gA = gA) = true := by decide
theorem txA : TxB gA.l := fun c hc => by
  simp only [gA, List.mem_cons, List.not_mem_nil, or_false] at hc
  rcases hc with rfl | rfl | rfl | rfl | rfl | rfl <;> simp [bl]
theorem la_cons {α : Type} {a : α} {l r : List α} : List.append (a :: l) r = a :: List.append l r := rfl
theorem la_nil {α : Type} {r : List α} : List.append [] r = r := rfl
theorem buildCell {a : Addr} {n c : Nat} : abuild prog 63 #[(0, .slice (some a) n c)] = some (.agg #[.slice (some a) n c, .int .i64 0, .bool false]) := by simp [abuild, wt, aplaces, Instr.fill, Value.cells]
theorem awake_ok {h : Heap} (G : Gl h) : ACalls prog 10 #[] h (fun v h' => v = .bool true ∧ Keeps h h') := by
  refine acalls_of_W' func10 rfl (by kernel_rfl) (by kernel_rfl) (by simp [ntmps10]) ?_
  intro H
  have K0 := Keeps.refl H
  simp only [wk, wt, wl, ↓reduceIte, Nat.reduceEqDiff, Nat.reduceAdd, Nat.zero_add, not_false_eq_true, not_true_eq_false]
  refine (pane0_ok).use ?_
  rintro _ a1 ⟨aq, rfl, ap, aV, aK, ao1, ao2, ao3⟩
  have aN := Keeps.new (Ch.wf aK) 57 (pqC aq)
  have aS := ps_one (Ch.wf aK) aV
  rw [ap] at aS
  have aK2 := K0.trans (aK.trans aN)
  simp only [wk, wt, wl, ↓reduceIte, Nat.reduceEqDiff, Nat.reduceAdd, Nat.zero_add, not_false_eq_true, not_true_eq_false, bsPane ao1 ao2 ao3]
  refine (draw_ok (msg := []) (G.keeps aK2) aS (fun P hP => by rw [List.mem_singleton.1 hP]; exact pnA_ok ⟨by decide, by decide⟩) (by simp) Rd.nil0 (fun j => by simp [isR]) (by simp)).use ?_
  rintro _ a3 ⟨akb, rfl, aG, ahk, aK3, _, _⟩
  rw [show drawM 2 3 [pnA 0] [] = gA.l from drawA] at aG ⊢
  have aK4 := aK2.trans aK3
  have aR := aG.gr (Ch.wf aK4)
  have aGV : gridV (sizeR 2) (sizeC 3) akb gA.l.length (imin (imax 0 0) (sizeR 2 - 1)) (imin (imax 9 0) (sizeC 3 - 1)) = gV gA (cvS akb gA.l.length) := rfl
  rw [aGV]
  obtain ⟨a5, ae5, aV5, aK5, az5⟩ := grid_var (g := gA) (Ch.wf aK4) aR.one
  have aK6 := aK4.trans aK5
  simp only [wk, wt, wl, ↓reduceIte, Nat.reduceEqDiff, Nat.reduceAdd, Nat.zero_add, not_false_eq_true, not_true_eq_false, pt, newSz, ae5]
  refine (pane0_ok).use ?_
  rintro _ b1 ⟨bq, rfl, bp, bV, bK, bo1, bo2, bo3⟩
  have bN := Keeps.new (Ch.wf bK) 57 (pqC bq)
  have bS := ps_one (Ch.wf bK) bV
  rw [bp] at bS
  have bK2 := aK6.trans (bK.trans bN)
  simp only [wk, wt, wl, ↓reduceIte, Nat.reduceEqDiff, Nat.reduceAdd, Nat.zero_add, not_false_eq_true, not_true_eq_false, bsPane bo1 bo2 bo3]
  refine (draw_ok (msg := []) (G.keeps bK2) bS (fun P hP => by rw [List.mem_singleton.1 hP]; exact pnA_ok ⟨by decide, by decide⟩) (by simp) Rd.nil0 (fun j => by simp [isR]) (by simp)).use ?_
  rintro _ b3 ⟨bkb, rfl, bG, bhk, bK3, _, _⟩
  rw [show drawM 2 3 [pnA 2] [] = gB.l from drawB] at bG ⊢
  have bK4 := bK2.trans bK3
  have bR := bG.gr (Ch.wf bK4)
  have bGV : gridV (sizeR 2) (sizeC 3) bkb gB.l.length (imin (imax 0 0) (sizeR 2 - 1)) (imin (imax 0 0) (sizeC 3 - 1)) = gV gB (cvS bkb gB.l.length) := rfl
  rw [bGV]
  obtain ⟨b5, be5, bV5, bK5, bz5⟩ := grid_var (g := gB) (Ch.wf bK4) bR.one
  have bK6 := bK4.trans bK5
  simp only [wk, wt, wl, ↓reduceIte, Nat.reduceEqDiff, Nat.reduceAdd, Nat.zero_add, not_false_eq_true, not_true_eq_false, pt, newSz, be5]
  have aV6 := Keeps.var (Ch.wf aK6) (((bK.trans bN).trans bK3).trans bK5) aV5
  have aR6 := aR.keeps (aK5.trans (((bK.trans bN).trans bK3).trans bK5))
  have bR6 := bR.keeps bK5
  obtain ⟨ga0, ga1, ga2, ga3, ga4, ga5⟩ := grid_load aV6
  obtain ⟨gb0, gb1, gb2, gb3, gb4, gb5⟩ := grid_load bV5
  have dn : decide (¬ (6 : Int) = 6) = false := rfl
  have LA : abuiltin prog .len #[27] #[cvS akb gA.l.length] = some (.int .i64 6) := aR6.len
  have LB : abuiltin prog .len #[27] #[cvS bkb gB.l.length] = some (.int .i64 6) := bR6.len
  simp only [wk, wt, wl, ↓reduceIte, Nat.reduceEqDiff, Nat.reduceAdd, Nat.zero_add, not_false_eq_true, not_true_eq_false, pt, ga2, LA, gb2, LB, dn]
  refine (blankG_ok).use ?_
  rintro _ c3 ⟨ckb, rfl, cG, chk, cK⟩
  have hbl : blankL 0 0 = [bl 0, bl 0, bl 0, bl 0] := by decide
  rw [hbl] at cG ⊢
  have cKK := bK6.trans cK
  have cR := cG.gr (Ch.wf cKK)
  have cGV : gridV (sizeR 0) (sizeC 0) ckb [bl 0, bl 0, bl 0, bl 0].length 0 0 = gV ⟨2, 2, [bl 0, bl 0, bl 0, bl 0], 0, 0⟩ (cvS ckb 4) := rfl
  rw [cGV]
  obtain ⟨c5, ce5, cV5, cK5, cz5⟩ := grid_var (g := ⟨2, 2, [bl 0, bl 0, bl 0, bl 0], 0, 0⟩) (Ch.wf cKK) (v := cvS ckb 4) cR.one
  have cK6 := cKK.trans cK5
  have K35 := cK.trans cK5
  have aV7 := Keeps.var (Ch.wf bK6) K35 aV6
  have bV7 := Keeps.var (Ch.wf bK6) K35 bV5
  have aR7 := aR6.keeps K35
  have bR7 := bR6.keeps K35
  have cR7 := cR.keeps cK5
  obtain ⟨xa0, xa1, xa2, xa3, xa4, xa5⟩ := grid_load aV7
  obtain ⟨tv0, T0, l0, i0, _⟩ := aR7.at (i := 0) (c := ⟨[97], 0, false⟩) rfl
  have i0' : aindexAddr prog 27 (cvS akb gA.l.length) (.int .i64 0) = some (.pointer (some (eltA (cvS akb gA.l.length) 3 0))) := i0
  have N8 := Keeps.new (Ch.wf cK6) 21 [.int .i32 97]
  have T8 : RdI prog (c5.new 21 [.int .i32 97]) .i32 (.slice (some ⟨c5.size, 0, none⟩) 1 2) [97] := Rd.new (Ch.wf cK6) asz21 rfl
  simp only [wk, wt, wl, ↓reduceIte, Nat.reduceEqDiff, Nat.reduceAdd, Nat.zero_add, not_false_eq_true, not_true_eq_false, pt, newSz, ce5, xa2, i0', l0, buildCell]
  simp only [la_cons, la_nil, List.toList_toArray]
  simp only [wk, wt, wl, ↓reduceIte, Nat.reduceEqDiff, Nat.reduceAdd, Nat.zero_add, not_false_eq_true, not_true_eq_false, pt, newSz, ce5, xa2, i0', l0, buildCell]
  refine (refCell_ok (c := ⟨[97], 0, false⟩) (d := ⟨[97], 0, false⟩) (T0.keeps N8) T8 (by simp)).use ?_
  rintro _ d1 ⟨rfl, dK1⟩
  have DK1 := cK6.trans (N8.trans dK1)
  have E1 := N8.trans dK1
  have dT : decide ((⟨[97], 0, false⟩ : Cel) = ⟨[97], 0, false⟩) = true := rfl
  have aV8 := Keeps.var (Ch.wf cK6) E1 aV7
  obtain ⟨ya0, ya1, ya2, ya3, ya4, ya5⟩ := grid_load aV8
  have aR8 := aR7.keeps E1
  obtain ⟨tv1, T1, _, i1, _, _, w1⟩ := aR8.at (i := 1) (c := ⟨[20013], 0, true⟩) rfl
  obtain ⟨tv2, T2, _, i2, t2, _⟩ := aR8.at (i := 2) (c := ⟨[], 0, false⟩) rfl
  have i1' : aindexAddr prog 27 (cvS akb gA.l.length) (.int .i64 1) = some (.pointer (some (eltA (cvS akb gA.l.length) 3 1))) := i1
  have i2' : aindexAddr prog 27 (cvS akb gA.l.length) (.int .i64 2) = some (.pointer (some (eltA (cvS akb gA.l.length) 3 2))) := i2
  have LT2 := T2.ln (n := 0) rfl
  have bV8 := Keeps.var (Ch.wf cK6) E1 bV7
  obtain ⟨yb0, yb1, yb2, yb3, yb4, yb5⟩ := grid_load bV8
  have bR8 := bR7.keeps E1
  obtain ⟨sv0, U0, m0, j0, _⟩ := bR8.at (i := 0) (c := bl 0) rfl
  have j0' : aindexAddr prog 27 (cvS bkb gB.l.length) (.int .i64 0) = some (.pointer (some (eltA (cvS bkb gB.l.length) 3 0))) := j0
  have N9 := Keeps.new (Ch.wf DK1) 21 [.int .i32 32]
  have T9 : RdI prog (d1.new 21 [.int .i32 32]) .i32 (.slice (some ⟨d1.size, 0, none⟩) 1 2) [32] := Rd.new (Ch.wf DK1) asz21 rfl
  have ga4' : gA.x = 2 := rfl
  have t2' : aload prog d1 23 ⟨(eltA (cvS akb gA.l.length) 3 2).block, (eltA (cvS akb gA.l.length) 3 2).off + 0, none⟩ = some tv2 := t2
  have z0 : decide ((0 : Int) = 0) = true := rfl
  have z2 : decide ((2 : Int) = 2) = true := rfl
  simp only [Nat.add_zero] at t2'
  simp only [bl] at m0
  simp only [wk, wt, wl, ↓reduceIte, Nat.reduceEqDiff, Nat.reduceAdd, Nat.zero_add, not_false_eq_true, not_true_eq_false, dT, pt, ya2, i1', w1, i2', t2', Nat.add_zero, LT2, z0, ya4, ga4', z2, yb2, j0', m0, buildCell]
  refine (refCell_ok (c := bl 0) (d := ⟨[32], 0, false⟩) (U0.keeps N9) T9 (by simp [bl])).use ?_
  rintro _ d2 ⟨rfl, dK2⟩
  have E2 := N9.trans dK2
  have DK2 := DK1.trans E2
  have dT2 : decide (bl 0 = ⟨[32], 0, false⟩) = true := rfl
  have bV9 := Keeps.var (Ch.wf DK1) E2 bV8
  obtain ⟨zb0, zb1, zb2, zb3, zb4, zb5⟩ := grid_load bV9
  have bR9 := bR8.keeps E2
  obtain ⟨sv1, U1, m1, j1, _⟩ := bR9.at (i := 1) (c := ⟨[98], 0, false⟩) rfl
  have j1' : aindexAddr prog 27 (cvS bkb gB.l.length) (.int .i64 1) = some (.pointer (some (eltA (cvS bkb gB.l.length) 3 1))) := j1
  have N10 := Keeps.new (Ch.wf DK2) 21 [.int .i32 98]
  have T10 : RdI prog (d2.new 21 [.int .i32 98]) .i32 (.slice (some ⟨d2.size, 0, none⟩) 1 2) [98] := Rd.new (Ch.wf DK2) asz21 rfl
  simp only [wk, wt, wl, ↓reduceIte, Nat.reduceEqDiff, Nat.reduceAdd, Nat.zero_add, not_false_eq_true, not_true_eq_false, dT2, pt, zb2, j1', m1, buildCell]
  refine (refCell_ok (c := ⟨[98], 0, false⟩) (d := ⟨[98], 0, false⟩) (U1.keeps N10) T10 (by simp)).use ?_
  rintro _ d3 ⟨rfl, dK3⟩
  have E3 := N10.trans dK3
  have DK3 := DK2.trans E3
  have dT3 : decide ((⟨[98], 0, false⟩ : Cel) = ⟨[98], 0, false⟩) = true := rfl
  have E13 := (E1.trans E2).trans E3
  have cV9 := Keeps.var (Ch.wf cK6) E13 cV5
  have aV9 := Keeps.var (Ch.wf cK6) E13 aV7
  have bV10 := Keeps.var (Ch.wf cK6) E13 bV7
  have aR9 := aR7.keeps E13
  have bR10 := bR7.keeps E13
  have cR9 := cR7.keeps E13
  obtain ⟨wc0, _, wc2, _, _, _⟩ := grid_load cV9
  obtain ⟨_, _, _, _, _, wa5⟩ := grid_load aV9
  have LC := cR9.len
  have LC' : abuiltin prog .len #[27] #[cvS ckb 4] = some (.int .i64 4) := LC
  have z4 : decide ((4 : Int) = 4) = true := rfl
  simp only [wk, wt, wl, ↓reduceIte, Nat.reduceEqDiff, Nat.reduceAdd, Nat.zero_add, not_false_eq_true, not_true_eq_false, dT3, pt, wc0, wc2, z2, LC', z4, wa5]
  refine (sameG_ok aR9 aR9 (by simp [gA]) txA).use ?_
  rintro _ d4 ⟨rfl, dK4⟩
  have DK4 := DK3.trans dK4
  have aV10 := Keeps.var (Ch.wf DK3) dK4 aV9
  have bV11 := Keeps.var (Ch.wf DK3) dK4 bV10
  obtain ⟨_, _, _, _, _, va5⟩ := grid_load aV10
  obtain ⟨_, _, _, _, _, vb5⟩ := grid_load bV11
  simp only [wk, wt, wl, ↓reduceIte, Nat.reduceEqDiff, Nat.reduceAdd, Nat.zero_add, not_false_eq_true, not_true_eq_false, gAA, pt, va5, vb5]
  refine (sameG_ok (aR9.keeps dK4) (bR10.keeps dK4) (by simp [gA]) txA).use ?_
  rintro _ d5 ⟨rfl, dK5⟩
  simp only [wk, wt, wl, ↓reduceIte, Nat.reduceEqDiff, Nat.reduceAdd, Nat.zero_add, not_false_eq_true, not_true_eq_false, gAB]
  exact DK4.trans dK5
end Go.Proofs.YtcgajolmjjeibaaDoor.Am
end
